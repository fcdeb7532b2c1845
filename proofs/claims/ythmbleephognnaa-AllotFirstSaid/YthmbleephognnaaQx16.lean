-- written by xprint.py (this session's program over the kit's print program)
import Derived.Test.YthmbleephognnaaQx0
import Derived.Test.YthmbleephognnaaQx2
import Derived.Test.YthmbleephognnaaQx3
import Derived.Test.YthmbleephognnaaQx4
import Derived.Test.YthmbleephognnaaQx7
import Derived.Test.YthmbleephognnaaQx8
import Derived.Test.YthmbleephognnaaQx9
namespace Go.Proofs.Ythmbleephognnaa.Q
open Go.RowKit Go.Proofs.YthmbleephognnaaW.PrintWords Go.Proofs.YthmbleephognnaaW.PrintLast Go.Proofs.YthmbleephognnaaW.PrintMore
attribute [local go_sem] max2_int min2_int max_two min_two max_three min_three max_four min_four -- for this text's walks alone
set_option linter.unusedVariables false
set_option linter.unusedSimpArgs false

/-! ### bournelaw37_AllotFirst: function 5 -/
mutual
def bournelaw37_AllotFirst.j0 : Nat → List (S45) → List Int → Int → Bool → Bool → ByteArray → List ByteArray → Int → List (S58) → List (S98) → List (S100) → List (S102) → List (S104) → List (S106) → List Int → Int → Option (Bool)
 | 0,_,_,_,_,_,_,_,_,_,_,_,_,_,_,_,_ => none
 | k + 1,x1,x2,x3,x9,x35,x344000,x344001,x344002,x344003,x344004,x344005,x344006,x344007,x344008,x344009,x344010 => if x35 = true then (some x9) else ((allot_Day.f k x344000 x344001 x344002 x344003 x344004 x344005 x344006 x344007 x344008 x344009 x344010 x1 x2).bind fun bt346 => (if 0 ≤ x3 then (if x3 ≤ (x1.length : Int) then ((allot_Day.f k x344000 x344001 x344002 x344003 x344004 x344005 x344006 x344007 x344008 x344009 x344010 (x1.take (x3 : Int).toNat) x2).bind fun bt356 => (if (bt346.1.length : Int) = (x1.length : Int) then (if x3 ≤ (bt346.1.length : Int) then ((bourneref37_Same.f k (bt346.1.take (x3 : Int).toNat) bt356.1).bind fun t366 => (bournelaw37_AllotFirst.j1 k x1 x3 x9 bt346.1 bt346.2 bt356.2 (!t366) x344000 x344001 x344002 x344003 x344004 x344005 x344006 x344007 x344008 x344009 x344010)) else (none)) else (none))) else (none)) else (none)))
def bournelaw37_AllotFirst.j1 : Nat → List (S45) → Int → Bool → List (S47) → List Int → List Int → Bool → ByteArray → List ByteArray → Int → List (S58) → List (S98) → List (S100) → List (S102) → List (S104) → List (S106) → List Int → Int → Option (Bool)
 | 0,_,_,_,_,_,_,_,_,_,_,_,_,_,_,_,_,_,_ => none
 | k + 1,x1,x3,x9,x11,x12,x14,x65,x344000,x344001,x344002,x344003,x344004,x344005,x344006,x344007,x344008,x344009,x344010 => if x65 = true then (none) else (bournelaw37_AllotFirst.l0 k x1 x9 x11 x12 x14 x3 x344000 x344001 x344002 x344003 x344004 x344005 x344006 x344007 x344008 x344009 x344010)
def bournelaw37_AllotFirst.l0 : Nat → List (S45) → Bool → List (S47) → List Int → List Int → Int → ByteArray → List ByteArray → Int → List (S58) → List (S98) → List (S100) → List (S102) → List (S104) → List (S106) → List Int → Int → Option (Bool)
 | 0,_,_,_,_,_,_,_,_,_,_,_,_,_,_,_,_,_ => none
 | k + 1,x1,x9,x11,x12,x14,x15,x344000,x344001,x344002,x344003,x344004,x344005,x344006,x344007,x344008,x344009,x344010 => if x15 < (x1.length : Int) then (if 0 ≤ x15 then ((allot_Reach.f k x344000 x344001 x344002 x344003 x344004 x344005 x344006 x344007 x344008 x344009 x344010 ((rd_T45 x1 x15).f3)).bind fun t369 => (if (t369.length : Int) = 0 then (bournelaw37_AllotFirst.j3 k x1 x9 x11 x12 x14 x15 t369 0 x344000 x344001 x344002 x344003 x344004 x344005 x344006 x344007 x344008 x344009 x344010) else (bournelaw37_AllotFirst.j3 k x1 x9 x11 x12 x14 x15 t369 (mx 0 ((rd_T45 x1 x15).f4)) x344000 x344001 x344002 x344003 x344004 x344005 x344006 x344007 x344008 x344009 x344010))) else (none)) else (if x9 = true then ((bourneref37_SameInts.f k x12 x14).bind fun t367 => (some t367)) else (none))
def bournelaw37_AllotFirst.j3 : Nat → List (S45) → Bool → List (S47) → List Int → List Int → Int → List Int → Int → ByteArray → List ByteArray → Int → List (S58) → List (S98) → List (S100) → List (S102) → List (S104) → List (S106) → List Int → Int → Option (Bool)
 | 0,_,_,_,_,_,_,_,_,_,_,_,_,_,_,_,_,_,_,_ => none
 | k + 1,x1,x9,x11,x12,x14,x15,x16,x17,x344000,x344001,x344002,x344003,x344004,x344005,x344006,x344007,x344008,x344009,x344010 => bournelaw37_AllotFirst.l1 k x1 x9 x11 x12 x14 x15 x16 x17 0 x344000 x344001 x344002 x344003 x344004 x344005 x344006 x344007 x344008 x344009 x344010
def bournelaw37_AllotFirst.l1 : Nat → List (S45) → Bool → List (S47) → List Int → List Int → Int → List Int → Int → Int → ByteArray → List ByteArray → Int → List (S58) → List (S98) → List (S100) → List (S102) → List (S104) → List (S106) → List Int → Int → Option (Bool)
 | 0,_,_,_,_,_,_,_,_,_,_,_,_,_,_,_,_,_,_,_,_ => none
 | k + 1,x1,x9,x11,x12,x14,x15,x16,x17,x18,x344000,x344001,x344002,x344003,x344004,x344005,x344006,x344007,x344008,x344009,x344010 => if x18 < (x16.length : Int) then (if 0 ≤ x18 then (if 0 ≤ (rd x16 x18) then (if (rd x16 x18) < (x14.length : Int) then (bournelaw37_AllotFirst.l1 k x1 x9 x11 x12 x14 x15 x16 (mn x17 (rd x14 (rd x16 x18))) (wrap64 (x18 + 1)) x344000 x344001 x344002 x344003 x344004 x344005 x344006 x344007 x344008 x344009 x344010) else (none)) else (none)) else (none)) else (bournelaw37_AllotFirst.l2 k x1 x9 x11 x12 x14 x15 x16 x17 0 x344000 x344001 x344002 x344003 x344004 x344005 x344006 x344007 x344008 x344009 x344010)
def bournelaw37_AllotFirst.l2 : Nat → List (S45) → Bool → List (S47) → List Int → List Int → Int → List Int → Int → Int → ByteArray → List ByteArray → Int → List (S58) → List (S98) → List (S100) → List (S102) → List (S104) → List (S106) → List Int → Int → Option (Bool)
 | 0,_,_,_,_,_,_,_,_,_,_,_,_,_,_,_,_,_,_,_,_ => none
 | k + 1,x1,x9,x11,x12,x14,x15,x16,x17,x19,x344000,x344001,x344002,x344003,x344004,x344005,x344006,x344007,x344008,x344009,x344010 => if x19 < (x16.length : Int) then (if 0 ≤ x19 then (if 0 ≤ (rd x16 x19) then (if (rd x16 x19) < (x14.length : Int) then (bournelaw37_AllotFirst.l2 k x1 x9 x11 x12 (x14.set ((rd x16 x19) : Int).toNat (wrap64 ((rd x14 (rd x16 x19)) - x17))) x15 x16 x17 (wrap64 (x19 + 1)) x344000 x344001 x344002 x344003 x344004 x344005 x344006 x344007 x344008 x344009 x344010) else (none)) else (none)) else (none)) else (if 0 ≤ x15 then (if x15 < (x11.length : Int) then (if ((rd_T47 x11 x15).f1) = x17 then (bournelaw37_AllotFirst.l0 k x1 x9 x11 x12 x14 (wrap64 (x15 + 1)) x344000 x344001 x344002 x344003 x344004 x344005 x344006 x344007 x344008 x344009 x344010) else (none)) else (none)) else (none))
end
def bournelaw37_AllotFirst.f (k : Nat) (a0_0 : ByteArray) (l0_1 : List ByteArray) (a0_2 : Int) (l0_3 : List (S58)) (l0_4 : List (S98)) (l0_5 : List (S100)) (l0_6 : List (S102)) (l0_7 : List (S104)) (l0_8 : List (S106)) (l0_9 : List Int) (a0_10 : Int) (l1 : List (S45)) (l2 : List Int) (a3 : Int) : Option (Bool) := (bournelaw37_small.f k).bind fun t344 => ((bournelaw37_few.f a0_0 l0_1 a0_2 l0_3 l0_4 l0_5 l0_6 l0_7 l0_8 l0_9 a0_10 l1 ([] : List (S47))).bind fun t345 => (if t345 = true then (if a3 < 0 then (bournelaw37_AllotFirst.j0 k l1 l2 a3 t344 true a0_0 l0_1 a0_2 l0_3 l0_4 l0_5 l0_6 l0_7 l0_8 l0_9 a0_10) else (bournelaw37_AllotFirst.j0 k l1 l2 a3 t344 (decide (a3 > (l1.length : Int))) a0_0 l0_1 a0_2 l0_3 l0_4 l0_5 l0_6 l0_7 l0_8 l0_9 a0_10)) else (bournelaw37_AllotFirst.j0 k l1 l2 a3 t344 true a0_0 l0_1 a0_2 l0_3 l0_4 l0_5 l0_6 l0_7 l0_8 l0_9 a0_10)))
def bournelaw37_AllotFirst.T6 : Bool × List (List Nat × List Nat) := (true,[([],[]),([],[]),([],[]),([1,2],[1,2]),([],[]),([0,3,4],[0,3,4]),([5],[5]),([6],[6]),([6],[6]),([7,5,0,1,2,3,4,5,6,7],[7]),([8,9,0,1,2,3,4,5,6,7,8,9],[8])])
def bournelaw37_AllotFirst.B6 : List Nat := [0,0,0,6,0,31,63,127,127,255,1023]
theorem bournelaw37_AllotFirst.tab6 : rtab .any (opsOf Try.f5 6) = bournelaw37_AllotFirst.T6 := by kernel_rfl
theorem bournelaw37_AllotFirst.bits6 : waitsOk bournelaw37_AllotFirst.T6.2 bournelaw37_AllotFirst.B6 = true := by kernel_rfl
def bournelaw37_AllotFirst.T12 : Bool × List (List Nat × List Nat) := (true,[([],[]),([],[]),([],[]),([1,2],[1,2]),([3],[3]),([4],[4]),([0,5],[0,5]),([6,6,0,1,2,3,4,5,6],[6])])
def bournelaw37_AllotFirst.B12 : List Nat := [0,0,0,6,14,30,63,127]
theorem bournelaw37_AllotFirst.tab12 : rtab .any (opsOf Try.f5 12) = bournelaw37_AllotFirst.T12 := by kernel_rfl
theorem bournelaw37_AllotFirst.bits12 : waitsOk bournelaw37_AllotFirst.T12.2 bournelaw37_AllotFirst.B12 = true := by kernel_rfl
def bournelaw37_AllotFirst.T23 : Bool × List (List Nat × List Nat) := (true,[([],[]),([],[]),([],[]),([1,2],[1,2]),([3],[3]),([],[]),([],[]),([],[]),([6,7],[6,7]),([8],[8]),([5,9],[5,9]),([10],[10]),([],[]),([11,12],[11,12]),([0,4,0,1,2,3,4,5,6,7,8,9,10,11,12,13],[0,4]),([14,13,0,1,2,3,4,5,6,7,8,9,10,11,12,13],[13,14])])
def bournelaw37_AllotFirst.B23 : List Nat := [0,0,0,6,14,0,0,0,192,448,992,2016,0,8160,16383,32767]
theorem bournelaw37_AllotFirst.tab23 : rtab .any (opsOf Try.f5 23) = bournelaw37_AllotFirst.T23 := by kernel_rfl
theorem bournelaw37_AllotFirst.bits23 : waitsOk bournelaw37_AllotFirst.T23.2 bournelaw37_AllotFirst.B23 = true := by kernel_rfl
set_option maxHeartbeats 8000000 in
set_option maxRecDepth 100000 in
theorem bournelaw37_AllotFirst.calls (k : Nat) (a0_0 : ByteArray) (A0_1 : Option Addr) (c0_1 : Nat) (l0_1 : List ByteArray) (a0_2 : Int) (A0_3 : Option Addr) (c0_3 : Nat) (l0_3 : List (S58)) (A0_4 : Option Addr) (c0_4 : Nat) (l0_4 : List (S98)) (A0_5 : Option Addr) (c0_5 : Nat) (l0_5 : List (S100)) (A0_6 : Option Addr) (c0_6 : Nat) (l0_6 : List (S102)) (A0_7 : Option Addr) (c0_7 : Nat) (l0_7 : List (S104)) (A0_8 : Option Addr) (c0_8 : Nat) (l0_8 : List (S106)) (A0_9 : Option Addr) (c0_9 : Nat) (l0_9 : List Int) (a0_10 : Int) (A1 : Option Addr) (c1 : Nat) (l1 : List (S45)) (A2 : Option Addr) (c2 : Nat) (l2 : List Int) (a3 : Int) (r : Bool) (w : World) (hr0_1 : Kd.C Kd.string w A0_1 l0_1.length l0_1) (hc0_1 : l0_1.length ≤ c0_1) (hr0_3 : Kd.C k58 w A0_3 l0_3.length l0_3) (hc0_3 : l0_3.length ≤ c0_3) (hr0_4 : Kd.C k98 w A0_4 l0_4.length l0_4) (hc0_4 : l0_4.length ≤ c0_4) (hr0_5 : Kd.C k100 w A0_5 l0_5.length l0_5) (hc0_5 : l0_5.length ≤ c0_5) (hr0_6 : Kd.C k102 w A0_6 l0_6.length l0_6) (hc0_6 : l0_6.length ≤ c0_6) (hr0_7 : Kd.C k104 w A0_7 l0_7.length l0_7) (hc0_7 : l0_7.length ≤ c0_7) (hr0_8 : Kd.C k106 w A0_8 l0_8.length l0_8) (hc0_8 : l0_8.length ≤ c0_8) (hr0_9 : Kd.C (Kd.int .i64) w A0_9 l0_9.length l0_9) (hc0_9 : l0_9.length ≤ c0_9) (hr1 : Kd.C k45 w A1 l1.length l1) (hc1 : l1.length ≤ c1) (hr2 : Kd.C (Kd.int .i64) w A2 l2.length l2) (hc2 : l2.length ≤ c2) (h : bournelaw37_AllotFirst.f k a0_0 l0_1 a0_2 l0_3 l0_4 l0_5 l0_6 l0_7 l0_8 l0_9 a0_10 l1 l2 a3 = some r) :
  Calls Try.prog 5 #[.agg #[.string a0_0,.slice A0_1 l0_1.length c0_1,.int .i64 a0_2,.slice A0_3 l0_3.length c0_3,.slice A0_4 l0_4.length c0_4,.slice A0_5 l0_5.length c0_5,.slice A0_6 l0_6.length c0_6,.slice A0_7 l0_7.length c0_7,.slice A0_8 l0_8.length c0_8,.slice A0_9 l0_9.length c0_9,.int .i64 a0_10],.slice A1 l1.length c1,.slice A2 l2.length c2,.int .i64 a3] w fun e w' => e = .returned (.bool r) ∧ Below w.heap.size w w' := by
 have hu31 := Try.underlying31
 have HR0_1 := Aside0.mk hr0_1
 have HC0_1 := Aside0.mk hc0_1
 clear hr0_1 hc0_1
 have HR0_3 := Aside0.mk hr0_3
 have HC0_3 := Aside0.mk hc0_3
 clear hr0_3 hc0_3
 have HR0_4 := Aside0.mk hr0_4
 have HC0_4 := Aside0.mk hc0_4
 clear hr0_4 hc0_4
 have HR0_5 := Aside0.mk hr0_5
 have HC0_5 := Aside0.mk hc0_5
 clear hr0_5 hc0_5
 have HR0_6 := Aside0.mk hr0_6
 have HC0_6 := Aside0.mk hc0_6
 clear hr0_6 hc0_6
 have HR0_7 := Aside0.mk hr0_7
 have HC0_7 := Aside0.mk hc0_7
 clear hr0_7 hc0_7
 have HR0_8 := Aside0.mk hr0_8
 have HC0_8 := Aside0.mk hc0_8
 clear hr0_8 hc0_8
 have HR0_9 := Aside0.mk hr0_9
 have HC0_9 := Aside0.mk hc0_9
 clear hr0_9 hc0_9
 have HR1 := Aside0.mk hr1
 have HC1 := Aside0.mk hc1
 clear hr1 hc1
 have HR2 := Aside0.mk hr2
 have HC2 := Aside0.mk hc2
 clear hr2 hc2
 have HB := Aside0.mk (Below.refl w.heap.size w)
 have H : ((bournelaw37_small.f k).bind fun t344 => ((bournelaw37_few.f a0_0 l0_1 a0_2 l0_3 l0_4 l0_5 l0_6 l0_7 l0_8 l0_9 a0_10 l1 ([] : List (S47))).bind fun t345 => (if t345 = true then (if a3 < 0 then (bournelaw37_AllotFirst.j0 k l1 l2 a3 t344 true a0_0 l0_1 a0_2 l0_3 l0_4 l0_5 l0_6 l0_7 l0_8 l0_9 a0_10) else (bournelaw37_AllotFirst.j0 k l1 l2 a3 t344 (decide (a3 > (l1.length : Int))) a0_0 l0_1 a0_2 l0_3 l0_4 l0_5 l0_6 l0_7 l0_8 l0_9 a0_10)) else (bournelaw37_AllotFirst.j0 k l1 l2 a3 t344 true a0_0 l0_1 a0_2 l0_3 l0_4 l0_5 l0_6 l0_7 l0_8 l0_9 a0_10)))) = some r := h
 clear h
 replace H := Option.bind_eq_some_iff.mp H
 obtain ⟨t344,A50,H⟩ := H
 replace H : ((bournelaw37_few.f a0_0 l0_1 a0_2 l0_3 l0_4 l0_5 l0_6 l0_7 l0_8 l0_9 a0_10 l1 ([] : List (S47))).bind fun t345 => (if t345 = true then (if a3 < 0 then (bournelaw37_AllotFirst.j0 k l1 l2 a3 t344 true a0_0 l0_1 a0_2 l0_3 l0_4 l0_5 l0_6 l0_7 l0_8 l0_9 a0_10) else (bournelaw37_AllotFirst.j0 k l1 l2 a3 t344 (decide (a3 > (l1.length : Int))) a0_0 l0_1 a0_2 l0_3 l0_4 l0_5 l0_6 l0_7 l0_8 l0_9 a0_10)) else (bournelaw37_AllotFirst.j0 k l1 l2 a3 t344 true a0_0 l0_1 a0_2 l0_3 l0_4 l0_5 l0_6 l0_7 l0_8 l0_9 a0_10))) = some r := H
 have A5 := Aside0.mk A50
 clear A50
 replace H := Option.bind_eq_some_iff.mp H
 obtain ⟨t345,A60,H⟩ := H
 replace H : (if t345 = true then (if a3 < 0 then (bournelaw37_AllotFirst.j0 k l1 l2 a3 t344 true a0_0 l0_1 a0_2 l0_3 l0_4 l0_5 l0_6 l0_7 l0_8 l0_9 a0_10) else (bournelaw37_AllotFirst.j0 k l1 l2 a3 t344 (decide (a3 > (l1.length : Int))) a0_0 l0_1 a0_2 l0_3 l0_4 l0_5 l0_6 l0_7 l0_8 l0_9 a0_10)) else (bournelaw37_AllotFirst.j0 k l1 l2 a3 t344 true a0_0 l0_1 a0_2 l0_3 l0_4 l0_5 l0_6 l0_7 l0_8 l0_9 a0_10)) = some r := H
 have A6 := Aside0.mk A60
 clear A60
 have HC7 := Aside0.mk H
 clear H
 go_enter Try.func5,Try.ntmps5
 go_upto_region 3 with (first | ((with_reducible refine gate_dst (N := 4) rfl ?_);(try (refine gate_guard (by rfl) ?_;dsimp only));refine box_event ?hg (N := 4) ?hd (cs := #[.string a0_0,.slice A0_1 l0_1.length c0_1,.int .i64 a0_2,.slice A0_3 l0_3.length c0_3,.slice A0_4 l0_4.length c0_4,.slice A0_5 l0_5.length c0_5,.slice A0_6 l0_6.length c0_6,.slice A0_7 l0_7.length c0_7,.slice A0_8 l0_8.length c0_8,.slice A0_9 l0_9.length c0_9,.int .i64 a0_10]) (t := 31) ?hr ?_;(case hd => rfl);(case hg => rfl);(case hr => first | (go_simp;done) | (go_simp;rfl));intro gb343 hg w8 hbox hb;have n0_ := Aside0.mk (below_step (by repeat (first | (with_reducible first | exact HB.out | apply below_alloc | apply pw_below_drewN | apply below_drew1) | exact HB.out)) hb);have n1_ := Aside0.mk (hbox);have n2_ := Aside0.mk ((by rw [hg];exact (below_size (by repeat (first | (with_reducible first | exact HB.out | apply below_alloc | apply pw_below_drewN | apply below_drew1) | exact HB.out))) : w.heap.size ≤ gb343));have n3_ := Aside0.mk ((by rw [hg];exact (below_size (by repeat (first | (with_reducible first | exact HB.out | apply below_alloc | apply pw_below_drewN | apply below_drew1) | exact HB.out))) : w.heap.size ≤ gb343));clear HB;have HB := n0_;have BK343 := n1_;have GW343 := n2_;have GE343 := n3_;clear n0_ n1_ n2_ n3_;clear hb hbox hg) | ((with_reducible refine gate_callee (f := 8) rfl ?_);refine goesL_ (some 20) rfl rfl Try.func8 (by kernel_rfl) rfl #[] rfl (by (try simp only [List.map_toArray,List.map_cons,List.map_nil]);first | done | rfl | (simp only [List.length_drop,List.length_take];rfl)) ?_;(with_reducible refine (bournelaw37_small.calls k t344 _ A5.out).mono ?_);rintro e w9 ⟨rfl,hb⟩;refine ⟨_,rfl,?_⟩;have n0_ := Aside0.mk (blk_below (g := gb343) (o := .cells #[.string a0_0,.slice A0_1 l0_1.length c0_1,.int .i64 a0_2,.slice A0_3 l0_3.length c0_3,.slice A0_4 l0_4.length c0_4,.slice A0_5 l0_5.length c0_5,.slice A0_6 l0_6.length c0_6,.slice A0_7 l0_7.length c0_7,.slice A0_8 l0_8.length c0_8,.slice A0_9 l0_9.length c0_9,.int .i64 a0_10] 31 (0,0)) (by (with_reducible repeat (first | refine blk_drewN ?_ _ | refine blk_drew ?_ | refine blk_alloc ?_ _));exact BK343.out) hb);have n1_ := Aside0.mk (below_step (by repeat (first | (with_reducible first | exact HB.out | apply below_alloc | apply pw_below_drewN | apply below_drew1 | refine below_set ?_ GE343.out) | exact HB.out)) hb);clear BK343;clear HB;have BK343 := n0_;have HB := n1_;clear n0_ n1_;(try clear hb);(try clear hb2);(try clear hk);(try clear hi);have hcz10_0 : w9.cell? ⟨gb343,0,none⟩ = some (.string a0_0) := (blk_cell BK343.out 0).trans rfl;have hcz10_1 : w9.cell? ⟨gb343,1,none⟩ = some (.slice A0_1 l0_1.length c0_1) := (blk_cell BK343.out 1).trans rfl;have hcz10_2 : w9.cell? ⟨gb343,2,none⟩ = some (.int .i64 a0_2) := (blk_cell BK343.out 2).trans rfl;have hcz10_3 : w9.cell? ⟨gb343,3,none⟩ = some (.slice A0_3 l0_3.length c0_3) := (blk_cell BK343.out 3).trans rfl;have hcz10_4 : w9.cell? ⟨gb343,4,none⟩ = some (.slice A0_4 l0_4.length c0_4) := (blk_cell BK343.out 4).trans rfl;have hcz10_5 : w9.cell? ⟨gb343,5,none⟩ = some (.slice A0_5 l0_5.length c0_5) := (blk_cell BK343.out 5).trans rfl;have hcz10_6 : w9.cell? ⟨gb343,6,none⟩ = some (.slice A0_6 l0_6.length c0_6) := (blk_cell BK343.out 6).trans rfl;have hcz10_7 : w9.cell? ⟨gb343,7,none⟩ = some (.slice A0_7 l0_7.length c0_7) := (blk_cell BK343.out 7).trans rfl;have hcz10_8 : w9.cell? ⟨gb343,8,none⟩ = some (.slice A0_8 l0_8.length c0_8) := (blk_cell BK343.out 8).trans rfl;have hcz10_9 : w9.cell? ⟨gb343,9,none⟩ = some (.slice A0_9 l0_9.length c0_9) := (blk_cell BK343.out 9).trans rfl;have hcz10_10 : w9.cell? ⟨gb343,10,none⟩ = some (.int .i64 a0_10) := (blk_cell BK343.out 10).trans rfl;have hfz10_0 := blk_frozen BK343.out 0;have hfz10_1 := blk_frozen BK343.out 1;have hfz10_2 := blk_frozen BK343.out 2;have hfz10_3 := blk_frozen BK343.out 3;have hfz10_4 := blk_frozen BK343.out 4;have hfz10_5 := blk_frozen BK343.out 5;have hfz10_6 := blk_frozen BK343.out 6;have hfz10_7 := blk_frozen BK343.out 7;have hfz10_8 := blk_frozen BK343.out 8;have hfz10_9 := blk_frozen BK343.out 9;have hfz10_10 := blk_frozen BK343.out 10) | ((with_reducible refine gate_callee (f := 9) rfl ?_);refine goesL_ (some 23) rfl rfl Try.func9 (by kernel_rfl) rfl #[.agg #[.string a0_0,.slice A0_1 l0_1.length c0_1,.int .i64 a0_2,.slice A0_3 l0_3.length c0_3,.slice A0_4 l0_4.length c0_4,.slice A0_5 l0_5.length c0_5,.slice A0_6 l0_6.length c0_6,.slice A0_7 l0_7.length c0_7,.slice A0_8 l0_8.length c0_8,.slice A0_9 l0_9.length c0_9,.int .i64 a0_10],.slice A1 l1.length c1,.slice none 0 0] rfl (by (try simp only [List.map_toArray,List.map_cons,List.map_nil]);first | done | rfl | (simp only [List.length_drop,List.length_take];rfl)) ?_;(refine (bournelaw37_few.calls a0_0 _ _ l0_1 a0_2 _ _ l0_3 _ _ l0_4 _ _ l0_5 _ _ l0_6 _ _ l0_7 _ _ l0_8 _ _ l0_9 a0_10 _ _ l1 _ _ ([] : List (S47)) t345 _ ?side1 ?side2 ?side3 ?side4 ?side5 ?side6 ?side7 ?side8 ?side9 ?side10 ?side11 ?side12 ?side13 ?side14 ?side15 ?side16 ?side17 ?side18 ?side19 ?side20 A6.out).mono ?_);(case side1 => repeat (first | exact (Kd.C_below HR0_1.out HB.out) | (with_reducible refine Kd.C_alloc ?_ _) | (with_reducible refine Kd.C_drewN ?_ _) | (with_reducible refine Kd.C_drew ?_)));(case side2 => exact HC0_1.out);(case side3 => repeat (first | exact (Kd.C_below HR0_3.out HB.out) | (with_reducible refine Kd.C_alloc ?_ _) | (with_reducible refine Kd.C_drewN ?_ _) | (with_reducible refine Kd.C_drew ?_)));(case side4 => exact HC0_3.out);(case side5 => repeat (first | exact (Kd.C_below HR0_4.out HB.out) | (with_reducible refine Kd.C_alloc ?_ _) | (with_reducible refine Kd.C_drewN ?_ _) | (with_reducible refine Kd.C_drew ?_)));(case side6 => exact HC0_4.out);(case side7 => repeat (first | exact (Kd.C_below HR0_5.out HB.out) | (with_reducible refine Kd.C_alloc ?_ _) | (with_reducible refine Kd.C_drewN ?_ _) | (with_reducible refine Kd.C_drew ?_)));(case side8 => exact HC0_5.out);(case side9 => repeat (first | exact (Kd.C_below HR0_6.out HB.out) | (with_reducible refine Kd.C_alloc ?_ _) | (with_reducible refine Kd.C_drewN ?_ _) | (with_reducible refine Kd.C_drew ?_)));(case side10 => exact HC0_6.out);(case side11 => repeat (first | exact (Kd.C_below HR0_7.out HB.out) | (with_reducible refine Kd.C_alloc ?_ _) | (with_reducible refine Kd.C_drewN ?_ _) | (with_reducible refine Kd.C_drew ?_)));(case side12 => exact HC0_7.out);(case side13 => repeat (first | exact (Kd.C_below HR0_8.out HB.out) | (with_reducible refine Kd.C_alloc ?_ _) | (with_reducible refine Kd.C_drewN ?_ _) | (with_reducible refine Kd.C_drew ?_)));(case side14 => exact HC0_8.out);(case side15 => repeat (first | exact (Kd.C_below HR0_9.out HB.out) | (with_reducible refine Kd.C_alloc ?_ _) | (with_reducible refine Kd.C_drewN ?_ _) | (with_reducible refine Kd.C_drew ?_)));(case side16 => exact HC0_9.out);(case side17 => repeat (first | exact (Kd.C_below HR1.out HB.out) | (with_reducible refine Kd.C_alloc ?_ _) | (with_reducible refine Kd.C_drewN ?_ _) | (with_reducible refine Kd.C_drew ?_)));(case side18 => exact HC1.out);(case side19 => exact Kd.C_nil _ _);(case side20 => exact Nat.le_refl _);rintro e w11 ⟨rfl,hb⟩;refine ⟨_,rfl,?_⟩;have n0_ := Aside0.mk (blk_below (g := gb343) (o := .cells #[.string a0_0,.slice A0_1 l0_1.length c0_1,.int .i64 a0_2,.slice A0_3 l0_3.length c0_3,.slice A0_4 l0_4.length c0_4,.slice A0_5 l0_5.length c0_5,.slice A0_6 l0_6.length c0_6,.slice A0_7 l0_7.length c0_7,.slice A0_8 l0_8.length c0_8,.slice A0_9 l0_9.length c0_9,.int .i64 a0_10] 31 (0,0)) (by (with_reducible repeat (first | refine blk_drewN ?_ _ | refine blk_drew ?_ | refine blk_alloc ?_ _));exact BK343.out) hb);have n1_ := Aside0.mk (below_step (by repeat (first | (with_reducible first | exact HB.out | apply below_alloc | apply pw_below_drewN | apply below_drew1 | refine below_set ?_ GE343.out) | exact HB.out)) hb);clear BK343;clear HB;have BK343 := n0_;have HB := n1_;clear n0_ n1_;(try clear hb);(try clear hb2);(try clear hk);(try clear hi)))
 (try simp only [Act.put,List.setIfInBounds_toArray,List.set_cons_zero,List.set_cons_succ])
 go_cut [35] (fun v35 wc => ∃ (kq : Nat) (x35_6 : Bool),v35 = .bool x35_6 ∧ Aside0 (bournelaw37_AllotFirst.j0 kq l1 l2 a3 t344 x35_6 a0_0 l0_1 a0_2 l0_3 l0_4 l0_5 l0_6 l0_7 l0_8 l0_9 a0_10 = some r) ∧ Aside0 (kq ≤ k) ∧ Aside0 (wc.heap[gb343]? = some (.cells #[.string a0_0,(.slice A0_1 l0_1.length c0_1),.int .i64 a0_2,(.slice A0_3 l0_3.length c0_3),(.slice A0_4 l0_4.length c0_4),(.slice A0_5 l0_5.length c0_5),(.slice A0_6 l0_6.length c0_6),(.slice A0_7 l0_7.length c0_7),(.slice A0_8 l0_8.length c0_8),(.slice A0_9 l0_9.length c0_9),.int .i64 a0_10] 31 (0,0))) ∧ Aside0 (Below w.heap.size w wc))
 case first =>
  have H := HC7.out
  clear HC7
  by_cases c12 : t345 = true
  ·subst c12
   have H1 : (if a3 < 0 then (bournelaw37_AllotFirst.j0 k l1 l2 a3 t344 true a0_0 l0_1 a0_2 l0_3 l0_4 l0_5 l0_6 l0_7 l0_8 l0_9 a0_10) else (bournelaw37_AllotFirst.j0 k l1 l2 a3 t344 (decide (a3 > (l1.length : Int))) a0_0 l0_1 a0_2 l0_3 l0_4 l0_5 l0_6 l0_7 l0_8 l0_9 a0_10)) = some r := by rw [if_pos rfl] at H;exact H
   clear H
   have H := H1
   clear H1
   by_cases c13 : a3 < 0
   ·rw [if_pos c13] at H
    have c13b0 : decide (a3 < 0) = true := decide_eq_true c13
    clear c13
    (first | rw [c13b0] | (simp only [i64_w,i32_w];rw [c13b0]) | skip)
    have H' := Aside0.mk H
    clear H
    go_wp2
    go_meet
    case rel => exact ⟨_,(true),(by first | rfl | (simp;done) | (simp [*];done)),H',⟨by first | omega | exact Nat.le_refl _⟩,⟨by (with_reducible repeat (first | refine blk_drewN ?_ _ | refine blk_drew ?_ | refine blk_alloc ?_ _));exact BK343.out⟩,⟨by repeat (first | (with_reducible first | exact HB.out | apply below_alloc | apply pw_below_drewN | apply below_drew1 | refine below_set ?_ GE343.out) | exact HB.out)⟩⟩
   ·rw [if_neg c13] at H
    have c13b0 : decide (a3 < 0) = false := decide_eq_false c13
    clear c13
    (first | rw [c13b0] | (simp only [i64_w,i32_w];rw [c13b0]) | skip)
    have H' := Aside0.mk H
    clear H
    go_wp2
    go_meet
    case rel => exact ⟨_,(decide (a3 > (l1.length : Int))),(by first | rfl | (simp;done) | (simp [*];done)),H',⟨by first | omega | exact Nat.le_refl _⟩,⟨by (with_reducible repeat (first | refine blk_drewN ?_ _ | refine blk_drew ?_ | refine blk_alloc ?_ _));exact BK343.out⟩,⟨by repeat (first | (with_reducible first | exact HB.out | apply below_alloc | apply pw_below_drewN | apply below_drew1 | refine below_set ?_ GE343.out) | exact HB.out)⟩⟩
  ·replace c12 := Bool.eq_false_iff.mpr c12
   subst c12
   have H1 : (bournelaw37_AllotFirst.j0 k l1 l2 a3 t344 true a0_0 l0_1 a0_2 l0_3 l0_4 l0_5 l0_6 l0_7 l0_8 l0_9 a0_10) = some r := by rw [if_neg (show ¬ (false = true) by decide)] at H;exact H
   clear H
   have H := H1
   clear H1
   have H' := Aside0.mk H
   clear H
   go_wp2
   go_meet
   case rel => exact ⟨_,(true),(by first | rfl | (simp;done) | (simp [*];done)),H',⟨by first | omega | exact Nat.le_refl _⟩,⟨by (with_reducible repeat (first | refine blk_drewN ?_ _ | refine blk_drew ?_ | refine blk_alloc ?_ _));exact BK343.out⟩,⟨by repeat (first | (with_reducible first | exact HB.out | apply below_alloc | apply pw_below_drewN | apply below_drew1 | refine below_set ?_ GE343.out) | exact HB.out)⟩⟩
 case rest =>
  clear HC7
  try clear c1
  try clear c2
  try clear p2
  try clear c5
  try clear c8
  try clear c9
  try clear c12
  try clear c13
  try clear c13b0
  try clear hcz10_0
  try clear hcz10_1
  try clear hcz10_10
  try clear hcz10_2
  try clear hcz10_3
  try clear hcz10_4
  try clear hcz10_5
  try clear hcz10_6
  try clear hcz10_7
  try clear hcz10_8
  try clear hcz10_9
  try clear hfz10_0
  try clear hfz10_1
  try clear hfz10_10
  try clear hfz10_2
  try clear hfz10_3
  try clear hfz10_4
  try clear hfz10_5
  try clear hfz10_6
  try clear hfz10_7
  try clear hfz10_8
  try clear hfz10_9
  obtain ⟨kq,x35_6,rfl,HA,HJ6,BK343,HB⟩ := hcut
  cases kq with
  | zero => exact absurd HA.out (by simp [bournelaw37_AllotFirst.j0])
  | succ kj6 =>
   have H := HA.out
   clear HA
   simp only [bournelaw37_AllotFirst.j0] at H
   by_cases c14 : x35_6 = true
   ·subst c14
    have H1 : (some t344) = some r := by rw [if_pos rfl] at H;exact H
    clear H
    have H := H1
    clear H1
    obtain rfl := Option.some.inj H
    go_wp2
    go_ret
    exact ⟨by first | rfl | (simp [errW_none,errW_some] <;> rfl) | (simp [*,errW_none,errW_some] <;> rfl),by repeat (first | (with_reducible first | exact HB.out | apply below_alloc | apply pw_below_drewN | apply below_drew1 | refine below_set ?_ GE343.out) | exact HB.out)⟩
   ·replace c14 := Bool.eq_false_iff.mpr c14
    subst c14
    have H1 : ((allot_Day.f kj6 a0_0 l0_1 a0_2 l0_3 l0_4 l0_5 l0_6 l0_7 l0_8 l0_9 a0_10 l1 l2).bind fun bt346 => (if 0 ≤ a3 then (if a3 ≤ (l1.length : Int) then ((allot_Day.f kj6 a0_0 l0_1 a0_2 l0_3 l0_4 l0_5 l0_6 l0_7 l0_8 l0_9 a0_10 (l1.take (a3 : Int).toNat) l2).bind fun bt356 => (if (bt346.1.length : Int) = (l1.length : Int) then (if a3 ≤ (bt346.1.length : Int) then ((bourneref37_Same.f kj6 (bt346.1.take (a3 : Int).toNat) bt356.1).bind fun t366 => (bournelaw37_AllotFirst.j1 kj6 l1 a3 t344 bt346.1 bt346.2 bt356.2 (!t366) a0_0 l0_1 a0_2 l0_3 l0_4 l0_5 l0_6 l0_7 l0_8 l0_9 a0_10)) else (none)) else (none))) else (none)) else (none))) = some r := by rw [if_neg (show ¬ (false = true) by decide)] at H;exact H
    clear H
    have H := H1
    clear H1
    replace H := Option.bind_eq_some_iff.mp H
    obtain ⟨⟨t346,t349⟩,A150,H⟩ := H
    replace H : (if 0 ≤ a3 then (if a3 ≤ (l1.length : Int) then ((allot_Day.f kj6 a0_0 l0_1 a0_2 l0_3 l0_4 l0_5 l0_6 l0_7 l0_8 l0_9 a0_10 (l1.take (a3 : Int).toNat) l2).bind fun bt356 => (if (t346.length : Int) = (l1.length : Int) then (if a3 ≤ (t346.length : Int) then ((bourneref37_Same.f kj6 (t346.take (a3 : Int).toNat) bt356.1).bind fun t366 => (bournelaw37_AllotFirst.j1 kj6 l1 a3 t344 t346 t349 bt356.2 (!t366) a0_0 l0_1 a0_2 l0_3 l0_4 l0_5 l0_6 l0_7 l0_8 l0_9 a0_10)) else (none)) else (none))) else (none)) else (none)) = some r := H
    have A15 := Aside0.mk A150
    clear A150
    by_cases c16 : 0 ≤ a3
    ·rw [if_pos c16] at H
     have c16b0 := eq_true c16
     have c16b1 : decide (0 ≤ a3) = true := decide_eq_true c16
     clear c16
     by_cases c17 : a3 ≤ (l1.length : Int)
     ·rw [if_pos c17] at H
      have c17b0 := eq_true c17
      have c17b1 : decide (a3 ≤ (l1.length : Int)) = true := decide_eq_true c17
      clear c17
      obtain ⟨y352,hy352⟩ : ∃ y_ : List (S45),y_ = (l1.take (a3 : Int).toNat) := ⟨_,rfl⟩
      replace H : ((allot_Day.f kj6 a0_0 l0_1 a0_2 l0_3 l0_4 l0_5 l0_6 l0_7 l0_8 l0_9 a0_10 y352 l2).bind fun bt356 => (if (t346.length : Int) = (l1.length : Int) then (if a3 ≤ (t346.length : Int) then ((bourneref37_Same.f kj6 (t346.take (a3 : Int).toNat) bt356.1).bind fun t366 => (bournelaw37_AllotFirst.j1 kj6 l1 a3 t344 t346 t349 bt356.2 (!t366) a0_0 l0_1 a0_2 l0_3 l0_4 l0_5 l0_6 l0_7 l0_8 l0_9 a0_10)) else (none)) else (none))) = some r := by first | (rw [hy352];with_reducible exact H) | (have H2_ := (Option.bind_some _ _).symm.trans H;rw [hy352];with_reducible exact H2_) | (have H2_ := (Option.bind_some _ _).symm.trans H;with_reducible exact H2_) | with_reducible exact H | (rw [hy352];exact H) | exact H
      have Ny352 := Aside0.mk hy352
      clear hy352
      replace H := Option.bind_eq_some_iff.mp H
      obtain ⟨⟨t356,t359⟩,A180,H⟩ := H
      replace H : (if (t346.length : Int) = (l1.length : Int) then (if a3 ≤ (t346.length : Int) then ((bourneref37_Same.f kj6 (t346.take (a3 : Int).toNat) t356).bind fun t366 => (bournelaw37_AllotFirst.j1 kj6 l1 a3 t344 t346 t349 t359 (!t366) a0_0 l0_1 a0_2 l0_3 l0_4 l0_5 l0_6 l0_7 l0_8 l0_9 a0_10)) else (none)) else (none)) = some r := H
      have A18 := Aside0.mk A180
      clear A180
      have HC19 := Aside0.mk H
      clear H
      have hcz20_0 : wc.cell? ⟨gb343,0,none⟩ = some (.string a0_0) := (blk_cell BK343.out 0).trans rfl
      have hcz20_1 : wc.cell? ⟨gb343,1,none⟩ = some (.slice A0_1 l0_1.length c0_1) := (blk_cell BK343.out 1).trans rfl
      have hcz20_2 : wc.cell? ⟨gb343,2,none⟩ = some (.int .i64 a0_2) := (blk_cell BK343.out 2).trans rfl
      have hcz20_3 : wc.cell? ⟨gb343,3,none⟩ = some (.slice A0_3 l0_3.length c0_3) := (blk_cell BK343.out 3).trans rfl
      have hcz20_4 : wc.cell? ⟨gb343,4,none⟩ = some (.slice A0_4 l0_4.length c0_4) := (blk_cell BK343.out 4).trans rfl
      have hcz20_5 : wc.cell? ⟨gb343,5,none⟩ = some (.slice A0_5 l0_5.length c0_5) := (blk_cell BK343.out 5).trans rfl
      have hcz20_6 : wc.cell? ⟨gb343,6,none⟩ = some (.slice A0_6 l0_6.length c0_6) := (blk_cell BK343.out 6).trans rfl
      have hcz20_7 : wc.cell? ⟨gb343,7,none⟩ = some (.slice A0_7 l0_7.length c0_7) := (blk_cell BK343.out 7).trans rfl
      have hcz20_8 : wc.cell? ⟨gb343,8,none⟩ = some (.slice A0_8 l0_8.length c0_8) := (blk_cell BK343.out 8).trans rfl
      have hcz20_9 : wc.cell? ⟨gb343,9,none⟩ = some (.slice A0_9 l0_9.length c0_9) := (blk_cell BK343.out 9).trans rfl
      have hcz20_10 : wc.cell? ⟨gb343,10,none⟩ = some (.int .i64 a0_10) := (blk_cell BK343.out 10).trans rfl
      have hfz20_0 := blk_frozen BK343.out 0
      have hfz20_1 := blk_frozen BK343.out 1
      have hfz20_2 := blk_frozen BK343.out 2
      have hfz20_3 := blk_frozen BK343.out 3
      have hfz20_4 := blk_frozen BK343.out 4
      have hfz20_5 := blk_frozen BK343.out 5
      have hfz20_6 := blk_frozen BK343.out 6
      have hfz20_7 := blk_frozen BK343.out 7
      have hfz20_8 := blk_frozen BK343.out 8
      have hfz20_9 := blk_frozen BK343.out 9
      have hfz20_10 := blk_frozen BK343.out 10
      try go_wp2_with (first | ((with_reducible refine gate_callee (f := 10) rfl ?_);refine goesL_ (some 41) rfl rfl Try.func10 (by kernel_rfl) rfl #[.agg #[.string a0_0,.slice A0_1 l0_1.length c0_1,.int .i64 a0_2,.slice A0_3 l0_3.length c0_3,.slice A0_4 l0_4.length c0_4,.slice A0_5 l0_5.length c0_5,.slice A0_6 l0_6.length c0_6,.slice A0_7 l0_7.length c0_7,.slice A0_8 l0_8.length c0_8,.slice A0_9 l0_9.length c0_9,.int .i64 a0_10],.slice A1 l1.length c1,.slice A2 l2.length c2] rfl (by (try simp only [List.map_toArray,List.map_cons,List.map_nil]);first | done | rfl | (simp only [List.length_drop,List.length_take];rfl)) ?_;(with_reducible refine (allot_Day.calls kj6 a0_0 _ _ l0_1 a0_2 _ _ l0_3 _ _ l0_4 _ _ l0_5 _ _ l0_6 _ _ l0_7 _ _ l0_8 _ _ l0_9 a0_10 _ _ l1 _ _ l2 t346 t349 _ ?side1 ?side2 ?side3 ?side4 ?side5 ?side6 ?side7 ?side8 ?side9 ?side10 ?side11 ?side12 ?side13 ?side14 ?side15 ?side16 ?side17 ?side18 ?side19 ?side20 A15.out).mono ?_);(case side1 => repeat (first | exact (Kd.C_below HR0_1.out HB.out) | (with_reducible refine Kd.C_alloc ?_ _) | (with_reducible refine Kd.C_drewN ?_ _) | (with_reducible refine Kd.C_drew ?_)));(case side2 => exact HC0_1.out);(case side3 => repeat (first | exact (Kd.C_below HR0_3.out HB.out) | (with_reducible refine Kd.C_alloc ?_ _) | (with_reducible refine Kd.C_drewN ?_ _) | (with_reducible refine Kd.C_drew ?_)));(case side4 => exact HC0_3.out);(case side5 => repeat (first | exact (Kd.C_below HR0_4.out HB.out) | (with_reducible refine Kd.C_alloc ?_ _) | (with_reducible refine Kd.C_drewN ?_ _) | (with_reducible refine Kd.C_drew ?_)));(case side6 => exact HC0_4.out);(case side7 => repeat (first | exact (Kd.C_below HR0_5.out HB.out) | (with_reducible refine Kd.C_alloc ?_ _) | (with_reducible refine Kd.C_drewN ?_ _) | (with_reducible refine Kd.C_drew ?_)));(case side8 => exact HC0_5.out);(case side9 => repeat (first | exact (Kd.C_below HR0_6.out HB.out) | (with_reducible refine Kd.C_alloc ?_ _) | (with_reducible refine Kd.C_drewN ?_ _) | (with_reducible refine Kd.C_drew ?_)));(case side10 => exact HC0_6.out);(case side11 => repeat (first | exact (Kd.C_below HR0_7.out HB.out) | (with_reducible refine Kd.C_alloc ?_ _) | (with_reducible refine Kd.C_drewN ?_ _) | (with_reducible refine Kd.C_drew ?_)));(case side12 => exact HC0_7.out);(case side13 => repeat (first | exact (Kd.C_below HR0_8.out HB.out) | (with_reducible refine Kd.C_alloc ?_ _) | (with_reducible refine Kd.C_drewN ?_ _) | (with_reducible refine Kd.C_drew ?_)));(case side14 => exact HC0_8.out);(case side15 => repeat (first | exact (Kd.C_below HR0_9.out HB.out) | (with_reducible refine Kd.C_alloc ?_ _) | (with_reducible refine Kd.C_drewN ?_ _) | (with_reducible refine Kd.C_drew ?_)));(case side16 => exact HC0_9.out);(case side17 => repeat (first | exact (Kd.C_below HR1.out HB.out) | (with_reducible refine Kd.C_alloc ?_ _) | (with_reducible refine Kd.C_drewN ?_ _) | (with_reducible refine Kd.C_drew ?_)));(case side18 => exact HC1.out);(case side19 => repeat (first | exact (Kd.C_below HR2.out HB.out) | (with_reducible refine Kd.C_alloc ?_ _) | (with_reducible refine Kd.C_drewN ?_ _) | (with_reducible refine Kd.C_drew ?_)));(case side20 => exact HC2.out);rintro e w21 ⟨v347,v350,rfl,ho0,ho1,hb⟩;refine ⟨_,rfl,?_⟩;have n0_ := Aside0.mk (Kd.R_lower ho0 (below_size (by repeat (first | (with_reducible first | exact HB.out | apply below_alloc | apply pw_below_drewN | apply below_drew1 | refine below_set ?_ GE343.out) | exact HB.out))));have n1_ := Aside0.mk (Kd.R_lower ho1 (below_size (by repeat (first | (with_reducible first | exact HB.out | apply below_alloc | apply pw_below_drewN | apply below_drew1 | refine below_set ?_ GE343.out) | exact HB.out))));have n2_ := Aside0.mk (blk_below (g := gb343) (o := .cells #[.string a0_0,.slice A0_1 l0_1.length c0_1,.int .i64 a0_2,.slice A0_3 l0_3.length c0_3,.slice A0_4 l0_4.length c0_4,.slice A0_5 l0_5.length c0_5,.slice A0_6 l0_6.length c0_6,.slice A0_7 l0_7.length c0_7,.slice A0_8 l0_8.length c0_8,.slice A0_9 l0_9.length c0_9,.int .i64 a0_10] 31 (0,0)) (by (with_reducible repeat (first | refine blk_drewN ?_ _ | refine blk_drew ?_ | refine blk_alloc ?_ _));exact BK343.out) hb);have n3_ := Aside0.mk (below_step (by repeat (first | (with_reducible first | exact HB.out | apply below_alloc | apply pw_below_drewN | apply below_drew1 | refine below_set ?_ GE343.out) | exact HB.out)) hb);clear BK343;clear HB;have HO348 := n0_;have HO351 := n1_;have BK343 := n2_;have HB := n3_;clear n0_ n1_ n2_ n3_;(try clear hb);(try clear hb2);(try clear hk);(try clear hi);(try clear ho0);(try clear ho1)))
      (repeat (rw [drewN_self w21];generalize hq_ : World.drewN w21 _ = w21;have n0_ : Aside0 (Kd.R k47 47 w21 w.heap.size (fun _ => True) v347 t346) := ⟨by rw [← hq_];exact (by (with_reducible repeat (first | apply Kd.R_alloc | apply Kd.R_drewN | apply Kd.R_drew));exact HO348.out)⟩;have n1_ : Aside0 (Kd.R (Kd.int .i64) 3 w21 w.heap.size (fun _ => True) v350 t349) := ⟨by rw [← hq_];exact (by (with_reducible repeat (first | apply Kd.R_alloc | apply Kd.R_drewN | apply Kd.R_drew));exact HO351.out)⟩;have n2_ : Aside0 (w21.heap[gb343]? = some (.cells #[.string a0_0,.slice A0_1 l0_1.length c0_1,.int .i64 a0_2,.slice A0_3 l0_3.length c0_3,.slice A0_4 l0_4.length c0_4,.slice A0_5 l0_5.length c0_5,.slice A0_6 l0_6.length c0_6,.slice A0_7 l0_7.length c0_7,.slice A0_8 l0_8.length c0_8,.slice A0_9 l0_9.length c0_9,.int .i64 a0_10] 31 (0,0))) := ⟨by rw [← hq_];exact (by (with_reducible repeat (first | refine blk_drewN ?_ _ | refine blk_drew ?_ | refine blk_alloc ?_ _));exact BK343.out)⟩;have n3_ : Aside0 (Below w.heap.size w w21) := ⟨by rw [← hq_];exact (by repeat (first | (with_reducible first | exact HB.out | apply below_alloc | apply pw_below_drewN | apply below_drew1 | refine below_set ?_ GE343.out) | exact HB.out))⟩;clear HO348 HO351 BK343 HB hq_;have HO348 := n0_;have HO351 := n1_;have BK343 := n2_;have HB := n3_;clear n0_ n1_ n2_ n3_))
      have n0_ := Aside0.mk (Kd.R_drew HO348.out)
      have n1_ := Aside0.mk (Kd.R_drew HO351.out)
      have n2_ := Aside0.mk (blk_drew BK343.out)
      have n3_ := Aside0.mk (below_drew1 HB.out)
      clear HO348
      clear HO351
      clear BK343
      clear HB
      have HO348 := n0_
      have HO351 := n1_
      have BK343 := n2_
      have HB := n3_
      clear n0_ n1_ n2_ n3_
      have q23 : (a3 : Int) ≤ ((l1.length : Int) : Int) := of_decide_eq_true (by first | (with_reducible assumption) | assumption)
      obtain ⟨i023,hi023,_,hsz23,_⟩ := info_parts info45
      have hroom23 : l1.length ≤ c1 := HC1.out
      have hC23 : Kd.C k45 _ A1 l1.length l1 := HR1.out
      have hcut23 := cut_to (P := Try.prog) 32 45 .i64 Try.underlying32 hi023 A1 l1.length c1 a3 (of_decide_eq_true (by first | (with_reducible assumption) | assumption)) q23 hroom23
      have hr23 := Kd.C_take (m := (a3 : Int).toNat) hC23 (by omega)
      have hy23 : y352.length = (a3 : Int).toNat := (by rw [Ny352.out,List.length_take];omega)
      rw [← Ny352.out] at hr23
      rw [← hy23] at hcut23
      have HR355 := Aside0.mk hr23
      have HC355 := Aside0.mk (show y352.length ≤ c1 from by omega)
      clear hr23 hC23 hroom23 hi023 hsz23
      have KY23 := Aside0.mk hy23
      clear hy23
      replace q23 := eq_true q23
      refine start_ (n := 11) (S := fun w' => w'.cell? ⟨gb343,0,none⟩ = some (.string a0_0) ∧ w'.cell? ⟨gb343,1,none⟩ = some (.slice A0_1 l0_1.length c0_1) ∧ w'.cell? ⟨gb343,2,none⟩ = some (.int .i64 a0_2) ∧ w'.cell? ⟨gb343,3,none⟩ = some (.slice A0_3 l0_3.length c0_3) ∧ w'.cell? ⟨gb343,4,none⟩ = some (.slice A0_4 l0_4.length c0_4) ∧ w'.cell? ⟨gb343,5,none⟩ = some (.slice A0_5 l0_5.length c0_5) ∧ w'.cell? ⟨gb343,6,none⟩ = some (.slice A0_6 l0_6.length c0_6) ∧ w'.cell? ⟨gb343,7,none⟩ = some (.slice A0_7 l0_7.length c0_7) ∧ w'.cell? ⟨gb343,8,none⟩ = some (.slice A0_8 l0_8.length c0_8) ∧ w'.cell? ⟨gb343,9,none⟩ = some (.slice A0_9 l0_9.length c0_9) ∧ w'.cell? ⟨gb343,10,none⟩ = some (.int .i64 a0_10)) (ds := []) #[false,false,false,false,false,false,false,false,false,false,false] (by kernel_rfl) rfl rfl ⟨(blk_cell BK343.out 0).trans rfl,(blk_cell BK343.out 1).trans rfl,(blk_cell BK343.out 2).trans rfl,(blk_cell BK343.out 3).trans rfl,(blk_cell BK343.out 4).trans rfl,(blk_cell BK343.out 5).trans rfl,(blk_cell BK343.out 6).trans rfl,(blk_cell BK343.out 7).trans rfl,(blk_cell BK343.out 8).trans rfl,(blk_cell BK343.out 9).trans rfl,(blk_cell BK343.out 10).trans rfl⟩ (fun hHeld => ?_);refine with_tabW bournelaw37_AllotFirst.tab6 bournelaw37_AllotFirst.bits6 (fun HT_ HW_ => ?_)
      generalize w21.drew = w22 at HO348 HO351 BK343 HB HR355 hHeld ⊢
      refine pure_ (i := 1) (N := some 46) (v := ?_) (a' := ?_) #[false,true,false,false,false,false,false,false,false,false,false] rfl rfl (any_of HT_.out (by kernel_rfl)) (fun _ _ _ h => h) (Or.inl ⟨by rfl,?_⟩) ?_ ?_
      rotate_left
      ·intro w'
       go_simp
       with_reducible rfl
      rotate_left
      ·simp only [Act.put,List.setIfInBounds_toArray,List.set_cons_zero,List.set_cons_succ,i64_w,i32_w]
       rfl
      refine pure_ (i := 2) (N := some 47) (v := ?_) (a' := ?_) #[false,true,true,false,false,false,false,false,false,false,false] rfl rfl (any_of HT_.out (by kernel_rfl)) (fun _ _ _ h => h) (Or.inl ⟨by rfl,?_⟩) ?_ ?_
      rotate_left
      ·intro w'
       go_simp
       with_reducible rfl
      rotate_left
      ·simp only [Act.put,List.setIfInBounds_toArray,List.set_cons_zero,List.set_cons_succ,i64_w,i32_w]
       rfl
      refine pure_ (i := 3) (N := some 48) (v := ?_) (a' := ?_) #[false,true,true,true,false,false,false,false,false,false,false] rfl rfl (any_of HT_.out (by kernel_rfl)) (fun _ _ _ h => h) (Or.inl ⟨by rfl,?_⟩) ?_ ?_
      rotate_left
      ·intro w'
       go_simp
       with_reducible rfl
      rotate_left
      ·simp only [Act.put,List.setIfInBounds_toArray,List.set_cons_zero,List.set_cons_succ,i64_w,i32_w]
       rfl
      refine pure_ (i := 4) (N := some 49) (v := ?_) (a' := ?_) #[false,true,true,true,true,false,false,false,false,false,false] rfl rfl (any_of HT_.out (by kernel_rfl)) (fun _ _ _ h => h) (Or.inl ⟨by rfl,?_⟩) ?_ ?_
      rotate_left
      ·intro w'
       go_simp
       with_reducible rfl
      rotate_left
      ·simp only [Act.put,List.setIfInBounds_toArray,List.set_cons_zero,List.set_cons_succ,i64_w,i32_w]
       rfl
      refine take_ (i := 0) (N := some 45) (v := ?_) (a' := ?_) #[true,true,true,true,true,false,false,false,false,false,false] rfl rfl (take_ofW HT_.out HW_.out (by kernel_rfl)) (fun _ _ _ h => h) (Or.inl ⟨by rfl,?_⟩) hHeld ?_ ?_
      rotate_left
      ·rintro w' ⟨s0,s1,s2,s3,s4,s5,s6,s7,s8,s9,s10⟩
       go_simp
       with_reducible rfl
      rotate_left
      ·simp only [Act.put,List.setIfInBounds_toArray,List.set_cons_zero,List.set_cons_succ,i64_w,i32_w]
       rfl
      refine one_ (i := 5) (N := some 50) #[true,true,true,true,true,true,false,false,false,false,false] rfl rfl (one_of HT_.out (by kernel_rfl)) (by decide) (fun K hK => ?_)
      refine goes_ Try.func10 (by kernel_rfl) rfl #[.agg #[.string a0_0,.slice A0_1 l0_1.length c0_1,.int .i64 a0_2,.slice A0_3 l0_3.length c0_3,.slice A0_4 l0_4.length c0_4,.slice A0_5 l0_5.length c0_5,.slice A0_6 l0_6.length c0_6,.slice A0_7 l0_7.length c0_7,.slice A0_8 l0_8.length c0_8,.slice A0_9 l0_9.length c0_9,.int .i64 a0_10],.slice A1 y352.length c1,.slice A2 l2.length c2] (by rfl) rfl rfl (by (try simp only [List.map_toArray,List.map_cons,List.map_nil]);first | done | rfl | (simp only [List.length_drop,List.length_take];rfl)) ?_
      with_reducible refine (allot_Day.calls kj6 a0_0 _ _ l0_1 a0_2 _ _ l0_3 _ _ l0_4 _ _ l0_5 _ _ l0_6 _ _ l0_7 _ _ l0_8 _ _ l0_9 a0_10 _ _ y352 _ _ l2 t356 t359 _ ?side1 ?side2 ?side3 ?side4 ?side5 ?side6 ?side7 ?side8 ?side9 ?side10 ?side11 ?side12 ?side13 ?side14 ?side15 ?side16 ?side17 ?side18 ?side19 ?side20 A18.out).mono ?_
      (case side1 => repeat (first | exact (Kd.C_below HR0_1.out HB.out) | (with_reducible refine Kd.C_alloc ?_ _) | (with_reducible refine Kd.C_drewN ?_ _) | (with_reducible refine Kd.C_drew ?_)))
      (case side2 => exact HC0_1.out)
      (case side3 => repeat (first | exact (Kd.C_below HR0_3.out HB.out) | (with_reducible refine Kd.C_alloc ?_ _) | (with_reducible refine Kd.C_drewN ?_ _) | (with_reducible refine Kd.C_drew ?_)))
      (case side4 => exact HC0_3.out)
      (case side5 => repeat (first | exact (Kd.C_below HR0_4.out HB.out) | (with_reducible refine Kd.C_alloc ?_ _) | (with_reducible refine Kd.C_drewN ?_ _) | (with_reducible refine Kd.C_drew ?_)))
      (case side6 => exact HC0_4.out)
      (case side7 => repeat (first | exact (Kd.C_below HR0_5.out HB.out) | (with_reducible refine Kd.C_alloc ?_ _) | (with_reducible refine Kd.C_drewN ?_ _) | (with_reducible refine Kd.C_drew ?_)))
      (case side8 => exact HC0_5.out)
      (case side9 => repeat (first | exact (Kd.C_below HR0_6.out HB.out) | (with_reducible refine Kd.C_alloc ?_ _) | (with_reducible refine Kd.C_drewN ?_ _) | (with_reducible refine Kd.C_drew ?_)))
      (case side10 => exact HC0_6.out)
      (case side11 => repeat (first | exact (Kd.C_below HR0_7.out HB.out) | (with_reducible refine Kd.C_alloc ?_ _) | (with_reducible refine Kd.C_drewN ?_ _) | (with_reducible refine Kd.C_drew ?_)))
      (case side12 => exact HC0_7.out)
      (case side13 => repeat (first | exact (Kd.C_below HR0_8.out HB.out) | (with_reducible refine Kd.C_alloc ?_ _) | (with_reducible refine Kd.C_drewN ?_ _) | (with_reducible refine Kd.C_drew ?_)))
      (case side14 => exact HC0_8.out)
      (case side15 => repeat (first | exact (Kd.C_below HR0_9.out HB.out) | (with_reducible refine Kd.C_alloc ?_ _) | (with_reducible refine Kd.C_drewN ?_ _) | (with_reducible refine Kd.C_drew ?_)))
      (case side16 => exact HC0_9.out)
      (case side17 => repeat (first | exact (Kd.C_below HR355.out HB.out) | (with_reducible refine Kd.C_alloc ?_ _) | (with_reducible refine Kd.C_drewN ?_ _) | (with_reducible refine Kd.C_drew ?_)))
      (case side18 => exact HC355.out)
      (case side19 => repeat (first | exact (Kd.C_below HR2.out HB.out) | (with_reducible refine Kd.C_alloc ?_ _) | (with_reducible refine Kd.C_drewN ?_ _) | (with_reducible refine Kd.C_drew ?_)))
      (case side20 => exact HC2.out)
      rintro e w24 ⟨v357,v360,rfl,ho0,ho1,hb⟩
      refine ⟨_,rfl,?_⟩
      have n0_ := Aside0.mk (Kd.R_elder' (by (with_reducible repeat (first | apply Kd.R_alloc | apply Kd.R_drewN | apply Kd.R_drew));exact HO348.out) (Kd.R_base ho0) hb)
      have n1_ := Aside0.mk (Kd.R_elder' (by (with_reducible repeat (first | apply Kd.R_alloc | apply Kd.R_drewN | apply Kd.R_drew));exact HO351.out) (Kd.R_base ho1) hb)
      have n2_ := Aside0.mk (Kd.R_lower (Kd.R_new' ho0 (Kd.R_lt (by (with_reducible repeat (first | apply Kd.R_alloc | apply Kd.R_drewN | apply Kd.R_drew));exact HO348.out))) (below_size (by repeat (first | (with_reducible first | exact HB.out | apply below_alloc | apply pw_below_drewN | apply below_drew1 | refine below_set ?_ GE343.out) | exact HB.out))))
      have n3_ := Aside0.mk (Kd.R_lower (Kd.R_new' ho1 (Kd.R_lt (by (with_reducible repeat (first | apply Kd.R_alloc | apply Kd.R_drewN | apply Kd.R_drew));exact HO351.out))) (below_size (by repeat (first | (with_reducible first | exact HB.out | apply below_alloc | apply pw_below_drewN | apply below_drew1 | refine below_set ?_ GE343.out) | exact HB.out))))
      have n4_ := Aside0.mk (blk_below (g := gb343) (o := .cells #[.string a0_0,.slice A0_1 l0_1.length c0_1,.int .i64 a0_2,.slice A0_3 l0_3.length c0_3,.slice A0_4 l0_4.length c0_4,.slice A0_5 l0_5.length c0_5,.slice A0_6 l0_6.length c0_6,.slice A0_7 l0_7.length c0_7,.slice A0_8 l0_8.length c0_8,.slice A0_9 l0_9.length c0_9,.int .i64 a0_10] 31 (0,0)) (by (with_reducible repeat (first | refine blk_drewN ?_ _ | refine blk_drew ?_ | refine blk_alloc ?_ _));exact BK343.out) hb)
      have n5_ := Aside0.mk (below_step (by repeat (first | (with_reducible first | exact HB.out | apply below_alloc | apply pw_below_drewN | apply below_drew1 | refine below_set ?_ GE343.out) | exact HB.out)) hb)
      clear HO348
      clear HO351
      clear BK343
      clear HB
      have HO348 := n0_
      have HO351 := n1_
      have HO358 := n2_
      have HO361 := n3_
      have BK343 := n4_
      have HB := n5_
      clear n0_ n1_ n2_ n3_ n4_ n5_
      (try clear hb)
      (try clear hb2)
      (try clear hk)
      (try clear hi)
      (try clear ho0)
      (try clear ho1)
      refine hK.out _ _ ⟨(blk_cell BK343.out 0).trans rfl,(blk_cell BK343.out 1).trans rfl,(blk_cell BK343.out 2).trans rfl,(blk_cell BK343.out 3).trans rfl,(blk_cell BK343.out 4).trans rfl,(blk_cell BK343.out 5).trans rfl,(blk_cell BK343.out 6).trans rfl,(blk_cell BK343.out 7).trans rfl,(blk_cell BK343.out 8).trans rfl,(blk_cell BK343.out 9).trans rfl,(blk_cell BK343.out 10).trans rfl⟩ (fun hHeld => ?_)
      clear hK K
      refine norm_ (a' := ?_) ?_ ?_
      rotate_left
      ·show Act.put _ (some 50) _ = _
       simp only [Act.put,List.setIfInBounds_toArray,List.set_cons_zero,List.set_cons_succ,i64_w,i32_w]
       rfl
      refine pure_ (i := 6) (N := some 44) (v := ?_) (a' := ?_) #[true,true,true,true,true,true,true,false,false,false,false] rfl rfl (any_of HT_.out (by kernel_rfl)) (fun _ _ _ h => h) (Or.inl ⟨by rfl,?_⟩) ?_ ?_
      rotate_left
      ·intro w'
       go_simp
       with_reducible rfl
      rotate_left
      ·simp only [Act.put,List.setIfInBounds_toArray,List.set_cons_zero,List.set_cons_succ,i64_w,i32_w]
       rfl
      refine pure_ (i := 7) (N := some 51) (v := ?_) (a' := ?_) #[true,true,true,true,true,true,true,true,false,false,false] rfl rfl (any_of HT_.out (by kernel_rfl)) (fun _ _ _ h => h) (Or.inl ⟨by rfl,?_⟩) ?_ ?_
      rotate_left
      ·intro w'
       go_simp
       with_reducible rfl
      rotate_left
      ·simp only [Act.put,List.setIfInBounds_toArray,List.set_cons_zero,List.set_cons_succ,i64_w,i32_w]
       rfl
      refine pure_ (i := 8) (N := some 52) (v := ?_) (a' := ?_) #[true,true,true,true,true,true,true,true,true,false,false] rfl rfl (any_of HT_.out (by kernel_rfl)) (fun _ _ _ h => h) (Or.inl ⟨by rfl,?_⟩) ?_ ?_
      rotate_left
      ·intro w'
       go_simp
       with_reducible rfl
      rotate_left
      ·simp only [Act.put,List.setIfInBounds_toArray,List.set_cons_zero,List.set_cons_succ,i64_w,i32_w]
       rfl
      refine pure_ (i := 9) (N := some 13) (v := ?_) (a' := ?_) #[true,true,true,true,true,true,true,true,true,true,false] rfl rfl (any_of HT_.out (by kernel_rfl)) (fun _ _ _ h => h) (Or.inl ⟨by rfl,?_⟩) ?_ ?_
      rotate_left
      ·intro w'
       go_simp
       with_reducible rfl
      rotate_left
      ·simp only [Act.put,List.setIfInBounds_toArray,List.set_cons_zero,List.set_cons_succ,i64_w,i32_w]
       rfl
      refine pure_ (i := 10) (N := some 14) (v := ?_) (a' := ?_) #[true,true,true,true,true,true,true,true,true,true,true] rfl rfl (any_of HT_.out (by kernel_rfl)) (fun _ _ _ h => h) (Or.inl ⟨by rfl,?_⟩) ?_ ?_
      rotate_left
      ·intro w'
       go_simp
       with_reducible rfl
      rotate_left
      ·simp only [Act.put,List.setIfInBounds_toArray,List.set_cons_zero,List.set_cons_succ,i64_w,i32_w]
       rfl
      refine done_ (done_of HT_.out (by kernel_rfl)) ?_
      go_upto_region 7 with (fail)
      go_cut [65] (fun v65 wc => ∃ (kq : Nat) (x65_18 : Bool),v65 = .bool x65_18 ∧ Aside0 (bournelaw37_AllotFirst.j1 kq l1 a3 t344 t346 t349 t359 x65_18 a0_0 l0_1 a0_2 l0_3 l0_4 l0_5 l0_6 l0_7 l0_8 l0_9 a0_10 = some r) ∧ Aside0 (kq ≤ kj6) ∧ Aside0 (Kd.R k47 47 wc w.heap.size (fun _ => True) v347 t346) ∧ Aside0 (Kd.R (Kd.int .i64) 3 wc w.heap.size (fun k_ => some k_ ≠ (v360 : Value).ownBlock) v350 t349) ∧ Aside0 (Kd.R (Kd.int .i64) 3 wc w.heap.size (fun k_ => some k_ ≠ (v350 : Value).ownBlock) v360 t359) ∧ Aside0 (wc.heap[gb343]? = some (.cells #[.string a0_0,(.slice A0_1 l0_1.length c0_1),.int .i64 a0_2,(.slice A0_3 l0_3.length c0_3),(.slice A0_4 l0_4.length c0_4),(.slice A0_5 l0_5.length c0_5),(.slice A0_6 l0_6.length c0_6),(.slice A0_7 l0_7.length c0_7),(.slice A0_8 l0_8.length c0_8),(.slice A0_9 l0_9.length c0_9),.int .i64 a0_10] 31 (0,0))) ∧ Aside0 (Below w.heap.size w wc))
      case first =>
       have H := HC19.out
       clear HC19
       by_cases c25 : (t346.length : Int) = (l1.length : Int)
       ·rw [if_pos c25] at H
        have c25b0 : ((t346.length : Int) == (l1.length : Int)) = true := beq_iff_eq.mpr c25
        have c25b1 : ((t346.length : Int) != (l1.length : Int)) = false := bne_eq_false_iff_eq.mpr c25
        have c25b2 : (t346.length == l1.length) = true := by first | simpa using c25 | (simp at c25 ⊢;omega)
        clear c25
        (first | rw [c25b0] | (simp only [i64_w,i32_w];rw [c25b0]) | skip)
        have c26b0 := eq_true (of_decide_eq_true (by first | (with_reducible assumption) | assumption) : 0 ≤ a3)
        by_cases c27 : a3 ≤ (t346.length : Int)
        ·rw [if_pos c27] at H
         have c27b0 := eq_true c27
         have c27b1 : decide (a3 ≤ (t346.length : Int)) = true := decide_eq_true c27
         clear c27
         obtain ⟨y362,hy362⟩ : ∃ y_ : List (S47),y_ = (t346.take (a3 : Int).toNat) := ⟨_,rfl⟩
         replace H : ((bourneref37_Same.f kj6 y362 t356).bind fun t366 => (bournelaw37_AllotFirst.j1 kj6 l1 a3 t344 t346 t349 t359 (!t366) a0_0 l0_1 a0_2 l0_3 l0_4 l0_5 l0_6 l0_7 l0_8 l0_9 a0_10)) = some r := by first | (rw [hy362];with_reducible exact H) | (have H2_ := (Option.bind_some _ _).symm.trans H;rw [hy362];with_reducible exact H2_) | (have H2_ := (Option.bind_some _ _).symm.trans H;with_reducible exact H2_) | with_reducible exact H | (rw [hy362];exact H) | exact H
         have Ny362 := Aside0.mk hy362
         clear hy362
         replace H := Option.bind_eq_some_iff.mp H
         obtain ⟨t366,A280,H⟩ := H
         replace H : (bournelaw37_AllotFirst.j1 kj6 l1 a3 t344 t346 t349 t359 (!t366) a0_0 l0_1 a0_2 l0_3 l0_4 l0_5 l0_6 l0_7 l0_8 l0_9 a0_10) = some r := H
         have A28 := Aside0.mk A280
         clear A280
         have H' := Aside0.mk H
         clear H
         obtain ⟨Ao29,co29,eo29⟩ := Kd.R_slice HO348.out
         subst eo29
         have q30 : (a3 : Int) ≤ ((t346.length : Int) : Int) := of_decide_eq_true (by first | (with_reducible assumption) | assumption)
         obtain ⟨i030,hi030,_,hsz30,_⟩ := info_parts info47
         have hroom30 : t346.length ≤ co29 := (Kd.R_reads' HO348.out).2.1
         have hC30 : Kd.C k47 _ Ao29 t346.length t346 := (Kd.R_reads' HO348.out).2.2
         have hcut30 := cut_to (P := Try.prog) 33 47 .i64 Try.underlying33 hi030 Ao29 t346.length co29 a3 (of_decide_eq_true (by first | (with_reducible assumption) | assumption)) q30 hroom30
         have hr30 := Kd.C_take (m := (a3 : Int).toNat) hC30 (by omega)
         have hy30 : y362.length = (a3 : Int).toNat := (by rw [Ny362.out,List.length_take];omega)
         rw [← Ny362.out] at hr30
         rw [← hy30] at hcut30
         have HR365 := Aside0.mk hr30
         have HC365 := Aside0.mk (show y362.length ≤ co29 from by omega)
         clear hr30 hC30 hroom30 hi030 hsz30
         have KY30 := Aside0.mk hy30
         clear hy30
         have KL30 := Aside0.mk (show (a3 : Int).toNat ≤ t346.length from by omega)
         replace q30 := eq_true q30
         obtain ⟨Ao31,co31,eo31⟩ := Kd.R_slice HO358.out
         subst eo31
         go_wp2_with (first | (go_at_call 17;(with_reducible refine (bourneref37_Same.calls kj6 _ _ y362 _ _ t356 t366 _ ?side1 ?side2 ?side3 ?side4 A28.out).mono ?_);(case side1 => repeat (first | exact (by repeat (first | (with_reducible exact HR365.out) | (with_reducible refine Kd.C_alloc ?_ _) | (with_reducible refine Kd.C_drewN ?_ _) | (with_reducible refine Kd.C_drew ?_) | exact HR365.out)) | (with_reducible refine Kd.C_alloc ?_ _) | (with_reducible refine Kd.C_drewN ?_ _) | (with_reducible refine Kd.C_drew ?_)));(case side2 => exact HC365.out);(case side3 => repeat (first | exact (Kd.R_reads' HO358.out).2.2 | (with_reducible refine Kd.C_alloc ?_ _) | (with_reducible refine Kd.C_drewN ?_ _) | (with_reducible refine Kd.C_drew ?_)));(case side4 => exact (Kd.R_reads' HO358.out).2.1);rintro e w' ⟨rfl,⟨nd,rfl⟩⟩))
         go_meet
         case rel => exact ⟨_,(!t366),(by first | rfl | (simp;done) | (simp [*];done)),H',⟨by have := HJ6.out;first | omega | exact Nat.le_refl _⟩,⟨by (with_reducible repeat (first | apply Kd.R_alloc | apply Kd.R_drewN | apply Kd.R_drew));exact Kd.R_mono HO348.out (fun _ hk => trivial)⟩,⟨by (with_reducible repeat (first | apply Kd.R_alloc | apply Kd.R_drewN | apply Kd.R_drew));exact Kd.R_mono HO351.out (fun _ hk => hk.2)⟩,⟨by (with_reducible repeat (first | apply Kd.R_alloc | apply Kd.R_drewN | apply Kd.R_drew));exact Kd.R_mono HO361.out (fun _ hk => hk.2)⟩,⟨by (with_reducible repeat (first | refine blk_drewN ?_ _ | refine blk_drew ?_ | refine blk_alloc ?_ _));exact BK343.out⟩,⟨by repeat (first | (with_reducible first | exact HB.out | apply below_alloc | apply pw_below_drewN | apply below_drew1 | refine below_set ?_ GE343.out) | exact HB.out)⟩⟩
        ·rw [if_neg c27] at H
         exact absurd H (by simp)
       ·rw [if_neg c25] at H
        exact absurd H (by simp)
      case rest =>
       clear HC19
       try clear c1
       try clear c2
       try clear p2
       try clear q2
       try clear q3
       try clear c5
       try clear c8
       try clear c9
       try clear c10
       try clear c12
       try clear c13
       try clear c13b0
       try clear c14
       try clear c16
       try clear c16b0
       try clear c16b1
       try clear c17
       try clear c17b0
       try clear c17b1
       try clear q23
       try clear c25
       try clear c25b0
       try clear c25b1
       try clear c25b2
       try clear c26
       try clear c26b0
       try clear c27
       try clear c27b0
       try clear c27b1
       try clear q30
       try clear hcz10_0
       try clear hcz10_1
       try clear hcz10_10
       try clear hcz10_2
       try clear hcz10_3
       try clear hcz10_4
       try clear hcz10_5
       try clear hcz10_6
       try clear hcz10_7
       try clear hcz10_8
       try clear hcz10_9
       try clear hcz20_0
       try clear hcz20_1
       try clear hcz20_10
       try clear hcz20_2
       try clear hcz20_3
       try clear hcz20_4
       try clear hcz20_5
       try clear hcz20_6
       try clear hcz20_7
       try clear hcz20_8
       try clear hcz20_9
       try clear hfz10_0
       try clear hfz10_1
       try clear hfz10_10
       try clear hfz10_2
       try clear hfz10_3
       try clear hfz10_4
       try clear hfz10_5
       try clear hfz10_6
       try clear hfz10_7
       try clear hfz10_8
       try clear hfz10_9
       try clear hfz20_0
       try clear hfz20_1
       try clear hfz20_10
       try clear hfz20_2
       try clear hfz20_3
       try clear hfz20_4
       try clear hfz20_5
       try clear hfz20_6
       try clear hfz20_7
       try clear hfz20_8
       try clear hfz20_9
       try clear p2
       try clear q23
       try clear q30
       obtain ⟨kq,x65_18,rfl,HA,HJ18,HO_11,HO_12,HO_14,BK343,HB⟩ := hcut
       cases kq with
       | zero => exact absurd HA.out (by simp [bournelaw37_AllotFirst.j1])
       | succ kj18 =>
        have H := HA.out
        clear HA
        simp only [bournelaw37_AllotFirst.j1] at H
        by_cases c32 : x65_18 = true
        ·subst c32
         have H1 : (none) = some r := by rw [if_pos rfl] at H;exact H
         clear H
         have H := H1
         clear H1
         exact absurd H (by simp)
        ·replace c32 := Bool.eq_false_iff.mpr c32
         subst c32
         have H1 : (bournelaw37_AllotFirst.l0 kj18 l1 t344 t346 t349 t359 a3 a0_0 l0_1 a0_2 l0_3 l0_4 l0_5 l0_6 l0_7 l0_8 l0_9 a0_10) = some r := by rw [if_neg (show ¬ (false = true) by decide)] at H;exact H
         clear H
         have H := H1
         clear H1
         have H' := Aside0.mk H
         clear H
         go_wp2
         go_loopg [15] kj18 (fun kq v15 w' => ∃ (x14_3 : List Int) (x15_3 : Int),v15 = .int .i64 x15_3 ∧ Aside0 (bournelaw37_AllotFirst.l0 kq l1 t344 t346 t349 x14_3 x15_3 a0_0 l0_1 a0_2 l0_3 l0_4 l0_5 l0_6 l0_7 l0_8 l0_9 a0_10 = some r) ∧ Aside0 (kq ≤ kj18) ∧ Aside0 (Kd.R k47 47 w' w.heap.size (fun _ => True) v347 t346) ∧ Aside0 (Kd.R (Kd.int .i64) 3 w' w.heap.size (fun k_ => some k_ ≠ (v360 : Value).ownBlock) v350 t349) ∧ Aside0 (Kd.R (Kd.int .i64) 3 w' w.heap.size (fun k_ => some k_ ≠ (v350 : Value).ownBlock) v360 x14_3) ∧ Aside0 (w'.heap[gb343]? = some (.cells #[.string a0_0,(.slice A0_1 l0_1.length c0_1),.int .i64 a0_2,(.slice A0_3 l0_3.length c0_3),(.slice A0_4 l0_4.length c0_4),(.slice A0_5 l0_5.length c0_5),(.slice A0_6 l0_6.length c0_6),(.slice A0_7 l0_7.length c0_7),(.slice A0_8 l0_8.length c0_8),(.slice A0_9 l0_9.length c0_9),.int .i64 a0_10] 31 (0,0))) ∧ Aside0 (Below w.heap.size w w'))
         case atStart => exact ⟨(t359),(a3),(by first | rfl | (simp;done) | (simp [*];done)),H',⟨Nat.le_refl _⟩,⟨by (with_reducible repeat (first | apply Kd.R_alloc | apply Kd.R_drewN | apply Kd.R_drew));exact HO_11.out⟩,⟨by (with_reducible repeat (first | apply Kd.R_alloc | apply Kd.R_drewN | apply Kd.R_drew));exact HO_12.out⟩,⟨by (with_reducible repeat (first | apply Kd.R_alloc | apply Kd.R_drewN | apply Kd.R_drew));exact HO_14.out⟩,⟨by (with_reducible repeat (first | refine blk_drewN ?_ _ | refine blk_drew ?_ | refine blk_alloc ?_ _));exact BK343.out⟩,⟨by repeat (first | (with_reducible first | exact HB.out | apply below_alloc | apply pw_below_drewN | apply below_drew1 | refine below_set ?_ GE343.out) | exact HB.out)⟩⟩
         case round =>
          clear H'
          try clear c1
          try clear c2
          try clear p2
          try clear q2
          try clear c3
          try clear q3
          try clear c5
          try clear c8
          try clear c9
          try clear c10
          try clear c12
          try clear c13
          try clear c13b0
          try clear c14
          try clear c16
          try clear c16b0
          try clear c16b1
          try clear c17
          try clear c17b0
          try clear c17b1
          try clear q23
          try clear c25
          try clear c25b0
          try clear c25b1
          try clear c25b2
          try clear c26
          try clear c26b0
          try clear c27
          try clear c27b0
          try clear c27b1
          try clear q30
          try clear c32
          try clear hcz10_0
          try clear hcz10_1
          try clear hcz10_10
          try clear hcz10_2
          try clear hcz10_3
          try clear hcz10_4
          try clear hcz10_5
          try clear hcz10_6
          try clear hcz10_7
          try clear hcz10_8
          try clear hcz10_9
          try clear hcz20_0
          try clear hcz20_1
          try clear hcz20_10
          try clear hcz20_2
          try clear hcz20_3
          try clear hcz20_4
          try clear hcz20_5
          try clear hcz20_6
          try clear hcz20_7
          try clear hcz20_8
          try clear hcz20_9
          try clear hfz10_0
          try clear hfz10_1
          try clear hfz10_10
          try clear hfz10_2
          try clear hfz10_3
          try clear hfz10_4
          try clear hfz10_5
          try clear hfz10_6
          try clear hfz10_7
          try clear hfz10_8
          try clear hfz10_9
          try clear hfz20_0
          try clear hfz20_1
          try clear hfz20_10
          try clear hfz20_2
          try clear hfz20_3
          try clear hfz20_4
          try clear hfz20_5
          try clear hfz20_6
          try clear hfz20_7
          try clear hfz20_8
          try clear hfz20_9
          try clear p2
          try clear q2
          try clear q23
          try clear q3
          try clear q30
          obtain ⟨x14_3,x15_3,rfl,HA,HK3,HO_11,HO_12,HO_14,BK343,HB⟩ := hrel
          cases gk with
          | zero => exact absurd HA.out (by simp [bournelaw37_AllotFirst.l0])
          | succ k3 =>
           have H := HA.out
           clear HA
           simp only [bournelaw37_AllotFirst.l0] at H
           by_cases c33 : x15_3 < (l1.length : Int)
           ·rw [if_pos c33] at H
            have c33b0 : decide (x15_3 < (l1.length : Int)) = true := decide_eq_true c33
            clear c33
            by_cases c34 : 0 ≤ x15_3
            ·rw [if_pos c34] at H
             have c34b0 : decide (0 ≤ x15_3) = true := decide_eq_true c34
             clear c34
             replace H := Option.bind_eq_some_iff.mp H
             obtain ⟨t369,A350,H⟩ := H
             replace H : (if (t369.length : Int) = 0 then (bournelaw37_AllotFirst.j3 k3 l1 t344 t346 t349 x14_3 x15_3 t369 0 a0_0 l0_1 a0_2 l0_3 l0_4 l0_5 l0_6 l0_7 l0_8 l0_9 a0_10) else (bournelaw37_AllotFirst.j3 k3 l1 t344 t346 t349 x14_3 x15_3 t369 (mx 0 ((rd_T45 l1 x15_3).f4)) a0_0 l0_1 a0_2 l0_3 l0_4 l0_5 l0_6 l0_7 l0_8 l0_9 a0_10)) = some r := H
             have A35 := Aside0.mk A350
             clear A350
             obtain ⟨ji36,hji36⟩ : ∃ j_ : Int,(mx 0 ((rd_T45 l1 x15_3).f4)) = j_ := ⟨_,rfl⟩
             replace H : (if (t369.length : Int) = 0 then (bournelaw37_AllotFirst.j3 k3 l1 t344 t346 t349 x14_3 x15_3 t369 0 a0_0 l0_1 a0_2 l0_3 l0_4 l0_5 l0_6 l0_7 l0_8 l0_9 a0_10) else (bournelaw37_AllotFirst.j3 k3 l1 t344 t346 t349 x14_3 x15_3 t369 ji36 a0_0 l0_1 a0_2 l0_3 l0_4 l0_5 l0_6 l0_7 l0_8 l0_9 a0_10)) = some r := by first | (rw [hji36] at H;exact H) | (simp only [hji36] at H ⊢;exact H)
             (try rw [hji36] at A35)
             have hji36_ : (if 0 < ((rd_T45 l1 x15_3).f4) then ((rd_T45 l1 x15_3).f4) else 0) = ji36 := hji36
             have HC37 := Aside0.mk H
             clear H
             try go_wp2
             (repeat (rw [drewN_self wr];generalize hq_ : World.drewN wr _ = wr;have n0_ : Aside0 (Kd.R k47 47 wr w.heap.size (fun _ => True) v347 t346) := ⟨by rw [← hq_];exact (by (with_reducible repeat (first | apply Kd.R_alloc | apply Kd.R_drewN | apply Kd.R_drew));exact HO_11.out)⟩;have n1_ : Aside0 (Kd.R (Kd.int .i64) 3 wr w.heap.size (fun k_ => some k_ ≠ (v360 : Value).ownBlock) v350 t349) := ⟨by rw [← hq_];exact (by (with_reducible repeat (first | apply Kd.R_alloc | apply Kd.R_drewN | apply Kd.R_drew));exact HO_12.out)⟩;have n2_ : Aside0 (Kd.R (Kd.int .i64) 3 wr w.heap.size (fun k_ => some k_ ≠ (v350 : Value).ownBlock) v360 x14_3) := ⟨by rw [← hq_];exact (by (with_reducible repeat (first | apply Kd.R_alloc | apply Kd.R_drewN | apply Kd.R_drew));exact HO_14.out)⟩;have n3_ : Aside0 (wr.heap[gb343]? = some (.cells #[.string a0_0,.slice A0_1 l0_1.length c0_1,.int .i64 a0_2,.slice A0_3 l0_3.length c0_3,.slice A0_4 l0_4.length c0_4,.slice A0_5 l0_5.length c0_5,.slice A0_6 l0_6.length c0_6,.slice A0_7 l0_7.length c0_7,.slice A0_8 l0_8.length c0_8,.slice A0_9 l0_9.length c0_9,.int .i64 a0_10] 31 (0,0))) := ⟨by rw [← hq_];exact (by (with_reducible repeat (first | refine blk_drewN ?_ _ | refine blk_drew ?_ | refine blk_alloc ?_ _));exact BK343.out)⟩;have n4_ : Aside0 (Below w.heap.size w wr) := ⟨by rw [← hq_];exact (by repeat (first | (with_reducible first | exact HB.out | apply below_alloc | apply pw_below_drewN | apply below_drew1 | refine below_set ?_ GE343.out) | exact HB.out))⟩;clear HO_11 HO_12 HO_14 BK343 HB hq_;have HO_11 := n0_;have HO_12 := n1_;have HO_14 := n2_;have BK343 := n3_;have HB := n4_;clear n0_ n1_ n2_ n3_ n4_))
             have n0_ := Aside0.mk (Kd.R_drew HO_11.out)
             have n1_ := Aside0.mk (Kd.R_drew HO_12.out)
             have n2_ := Aside0.mk (Kd.R_drew HO_14.out)
             have n3_ := Aside0.mk (blk_drew BK343.out)
             have n4_ := Aside0.mk (below_drew1 HB.out)
             clear HO_11
             clear HO_12
             clear HO_14
             clear BK343
             clear HB
             have HO_11 := n0_
             have HO_12 := n1_
             have HO_14 := n2_
             have BK343 := n3_
             have HB := n4_
             clear n0_ n1_ n2_ n3_ n4_
             have p368 : 0 ≤ (x15_3 : Int) := of_decide_eq_true (by first | (with_reducible assumption) | assumption)
             have q368 : x15_3 < (l1.length : Int) := of_decide_eq_true (by first | (with_reducible assumption) | assumption)
             obtain ⟨ad368,e368,hx368_0,hx368_1,hx368_2,hx368_3,hx368_4,hx368_5,hx368_6,hx368_7,hx368_8⟩ := at_T45 HR1.out x15_3 p368 q368
             have hw368_8 := hx368_8
             have hw368_7 := hx368_7
             have hw368_6 := hx368_6
             have hw368_5 := hx368_5
             have hw368_4 := hx368_4
             have hw368_3 := hx368_3
             have hw368_2 := hx368_2
             have hw368_1 := hx368_1
             have hw368_0 := hx368_0
             cases e368
             replace hx368_0 := (HB.out.cell (World.block_lt_of_cell? w _ hx368_0)).trans hx368_0
             replace hx368_1 := (HB.out.cell (World.block_lt_of_cell? w _ hx368_1)).trans hx368_1
             replace hx368_2 := (HB.out.cell (World.block_lt_of_cell? w _ hx368_2)).trans hx368_2
             replace hx368_3 := (HB.out.cell (World.block_lt_of_cell? w _ hx368_3)).trans hx368_3
             replace hx368_4 := (HB.out.cell (World.block_lt_of_cell? w _ hx368_4)).trans hx368_4
             replace hx368_5 := (HB.out.cell (World.block_lt_of_cell? w _ hx368_5)).trans hx368_5
             replace hx368_6 := (HB.out.cell (World.block_lt_of_cell? w _ hx368_6)).trans hx368_6
             replace hx368_7 := (HB.out.cell (World.block_lt_of_cell? w _ hx368_7)).trans hx368_7
             replace hx368_8 := (HB.out.cell (World.block_lt_of_cell? w _ hx368_8)).trans hx368_8
             replace p368 := eq_true p368
             replace q368 := eq_true q368
             refine start_ (n := 8) (S := fun w' => w'.cell? ⟨gb343,0,none⟩ = some (.string a0_0) ∧ w'.cell? ⟨gb343,1,none⟩ = some (.slice A0_1 l0_1.length c0_1) ∧ w'.cell? ⟨gb343,2,none⟩ = some (.int .i64 a0_2) ∧ w'.cell? ⟨gb343,3,none⟩ = some (.slice A0_3 l0_3.length c0_3) ∧ w'.cell? ⟨gb343,4,none⟩ = some (.slice A0_4 l0_4.length c0_4) ∧ w'.cell? ⟨gb343,5,none⟩ = some (.slice A0_5 l0_5.length c0_5) ∧ w'.cell? ⟨gb343,6,none⟩ = some (.slice A0_6 l0_6.length c0_6) ∧ w'.cell? ⟨gb343,7,none⟩ = some (.slice A0_7 l0_7.length c0_7) ∧ w'.cell? ⟨gb343,8,none⟩ = some (.slice A0_8 l0_8.length c0_8) ∧ w'.cell? ⟨gb343,9,none⟩ = some (.slice A0_9 l0_9.length c0_9) ∧ w'.cell? ⟨gb343,10,none⟩ = some (.int .i64 a0_10) ∧ w'.cell? (ad368.add ((x15_3).toNat * 9)) = some (.int .i64 ((rd_T45 l1 x15_3).f0)) ∧ w'.cell? ⟨(ad368.add ((x15_3).toNat * 9)).block,(ad368.add ((x15_3).toNat * 9)).off + 1,none⟩ = some (.int .i64 ((rd_T45 l1 x15_3).f1)) ∧ w'.cell? ⟨(ad368.add ((x15_3).toNat * 9)).block,(ad368.add ((x15_3).toNat * 9)).off + 2,none⟩ = some (.int .i64 ((rd_T45 l1 x15_3).f2)) ∧ w'.cell? ⟨(ad368.add ((x15_3).toNat * 9)).block,(ad368.add ((x15_3).toNat * 9)).off + 3,none⟩ = some (.int .i64 ((rd_T45 l1 x15_3).f3)) ∧ w'.cell? ⟨(ad368.add ((x15_3).toNat * 9)).block,(ad368.add ((x15_3).toNat * 9)).off + 4,none⟩ = some (.int .i64 ((rd_T45 l1 x15_3).f4)) ∧ w'.cell? ⟨(ad368.add ((x15_3).toNat * 9)).block,(ad368.add ((x15_3).toNat * 9)).off + 5,none⟩ = some (.int .i64 ((rd_T45 l1 x15_3).f5)) ∧ w'.cell? ⟨(ad368.add ((x15_3).toNat * 9)).block,(ad368.add ((x15_3).toNat * 9)).off + 6,none⟩ = some (.int .i64 ((rd_T45 l1 x15_3).f6)) ∧ w'.cell? ⟨(ad368.add ((x15_3).toNat * 9)).block,(ad368.add ((x15_3).toNat * 9)).off + 7,none⟩ = some (.int .i64 ((rd_T45 l1 x15_3).f7)) ∧ w'.cell? ⟨(ad368.add ((x15_3).toNat * 9)).block,(ad368.add ((x15_3).toNat * 9)).off + 8,none⟩ = some (.int .i64 ((rd_T45 l1 x15_3).f8))) (ds := []) #[false,false,false,false,false,false,false,false] (by kernel_rfl) rfl rfl ⟨(blk_cell BK343.out 0).trans rfl,(blk_cell BK343.out 1).trans rfl,(blk_cell BK343.out 2).trans rfl,(blk_cell BK343.out 3).trans rfl,(blk_cell BK343.out 4).trans rfl,(blk_cell BK343.out 5).trans rfl,(blk_cell BK343.out 6).trans rfl,(blk_cell BK343.out 7).trans rfl,(blk_cell BK343.out 8).trans rfl,(blk_cell BK343.out 9).trans rfl,(blk_cell BK343.out 10).trans rfl,((HB.out.cell (World.block_lt_of_cell? w _ hw368_0)).trans hw368_0),((HB.out.cell (World.block_lt_of_cell? w _ hw368_1)).trans hw368_1),((HB.out.cell (World.block_lt_of_cell? w _ hw368_2)).trans hw368_2),((HB.out.cell (World.block_lt_of_cell? w _ hw368_3)).trans hw368_3),((HB.out.cell (World.block_lt_of_cell? w _ hw368_4)).trans hw368_4),((HB.out.cell (World.block_lt_of_cell? w _ hw368_5)).trans hw368_5),((HB.out.cell (World.block_lt_of_cell? w _ hw368_6)).trans hw368_6),((HB.out.cell (World.block_lt_of_cell? w _ hw368_7)).trans hw368_7),((HB.out.cell (World.block_lt_of_cell? w _ hw368_8)).trans hw368_8)⟩ (fun hHeld => ?_);refine with_tabW bournelaw37_AllotFirst.tab12 bournelaw37_AllotFirst.bits12 (fun HT_ HW_ => ?_)
             generalize wr.drew = w38 at HO_11 HO_12 HO_14 BK343 HB hx368_0 hx368_1 hx368_2 hx368_3 hx368_4 hx368_5 hx368_6 hx368_7 hx368_8 hHeld ⊢
             refine pure_ (i := 1) (N := some 74) (v := ?_) (a' := ?_) #[false,true,false,false,false,false,false,false] rfl rfl (any_of HT_.out (by kernel_rfl)) (fun _ _ _ h => h) (Or.inl ⟨by rfl,?_⟩) ?_ ?_
             rotate_left
             ·intro w'
              go_simp
              with_reducible rfl
             rotate_left
             ·simp only [Act.put,List.setIfInBounds_toArray,List.set_cons_zero,List.set_cons_succ,i64_w,i32_w]
              rfl
             refine pure_ (i := 2) (N := some 75) (v := ?_) (a' := ?_) #[false,true,true,false,false,false,false,false] rfl rfl (any_of HT_.out (by kernel_rfl)) (fun _ _ _ h => h) (Or.inl ⟨by rfl,?_⟩) ?_ ?_
             rotate_left
             ·intro w'
              go_simp
              with_reducible rfl
             rotate_left
             ·simp only [Act.put,List.setIfInBounds_toArray,List.set_cons_zero,List.set_cons_succ,i64_w,i32_w]
              rfl
             refine pure_ (i := 3) (N := some 76) (v := ?_) (a' := ?_) #[false,true,true,true,false,false,false,false] rfl rfl (any_of HT_.out (by kernel_rfl)) (fun _ _ _ h => h) (Or.inl ⟨by rfl,?_⟩) ?_ ?_
             rotate_left
             ·intro w'
              go_simp
              with_reducible rfl
             rotate_left
             ·simp only [Act.put,List.setIfInBounds_toArray,List.set_cons_zero,List.set_cons_succ,i64_w,i32_w]
              rfl
             refine pure_ (i := 4) (N := some 77) (v := ?_) (a' := ?_) #[false,true,true,true,true,false,false,false] rfl rfl (any_of HT_.out (by kernel_rfl)) (fun _ _ _ h => h) (Or.inl ⟨by rfl,?_⟩) ?_ ?_
             rotate_left
             ·intro w'
              go_simp
              with_reducible rfl
             rotate_left
             ·simp only [Act.put,List.setIfInBounds_toArray,List.set_cons_zero,List.set_cons_succ,i64_w,i32_w]
              rfl
             refine take_ (i := 0) (N := some 73) (v := ?_) (a' := ?_) #[true,true,true,true,true,false,false,false] rfl rfl (take_ofW HT_.out HW_.out (by kernel_rfl)) (fun _ _ _ h => h) (Or.inl ⟨by rfl,?_⟩) hHeld ?_ ?_
             rotate_left
             ·rintro w' ⟨s0,s1,s2,s3,s4,s5,s6,s7,s8,s9,s10,s11,s12,s13,s14,s15,s16,s17,s18,s19⟩
              go_simp
              with_reducible rfl
             rotate_left
             ·simp only [Act.put,List.setIfInBounds_toArray,List.set_cons_zero,List.set_cons_succ,i64_w,i32_w]
              rfl
             refine take_ (i := 5) (N := some 78) (v := ?_) (a' := ?_) #[true,true,true,true,true,true,false,false] rfl rfl (take_ofW HT_.out HW_.out (by kernel_rfl)) (fun _ _ _ h => h) (Or.inl ⟨by rfl,?_⟩) hHeld ?_ ?_
             rotate_left
             ·rintro w' ⟨s0,s1,s2,s3,s4,s5,s6,s7,s8,s9,s10,s11,s12,s13,s14,s15,s16,s17,s18,s19⟩
              go_simp
              with_reducible rfl
             rotate_left
             ·simp only [Act.put,List.setIfInBounds_toArray,List.set_cons_zero,List.set_cons_succ,i64_w,i32_w]
              rfl
             refine one_ (i := 6) (N := some 79) #[true,true,true,true,true,true,true,false] rfl rfl (one_of HT_.out (by kernel_rfl)) (by decide) (fun K hK => ?_)
             refine goes_ Try.func13 (by kernel_rfl) rfl #[.agg #[.string a0_0,.slice A0_1 l0_1.length c0_1,.int .i64 a0_2,.slice A0_3 l0_3.length c0_3,.slice A0_4 l0_4.length c0_4,.slice A0_5 l0_5.length c0_5,.slice A0_6 l0_6.length c0_6,.slice A0_7 l0_7.length c0_7,.slice A0_8 l0_8.length c0_8,.slice A0_9 l0_9.length c0_9,.int .i64 a0_10],.int .i64 ((rd_T45 l1 x15_3).f3)] (by rfl) rfl rfl (by (try simp only [List.map_toArray,List.map_cons,List.map_nil]);first | done | rfl | (simp only [List.length_drop,List.length_take];rfl)) ?_
             with_reducible refine (allot_Reach.calls k3 a0_0 _ _ l0_1 a0_2 _ _ l0_3 _ _ l0_4 _ _ l0_5 _ _ l0_6 _ _ l0_7 _ _ l0_8 _ _ l0_9 a0_10 ((rd_T45 l1 x15_3).f3) t369 _ ?side1 ?side2 ?side3 ?side4 ?side5 ?side6 ?side7 ?side8 ?side9 ?side10 ?side11 ?side12 ?side13 ?side14 ?side15 ?side16 A35.out).mono ?_
             (case side1 => repeat (first | exact (Kd.C_below HR0_1.out HB.out) | (with_reducible refine Kd.C_alloc ?_ _) | (with_reducible refine Kd.C_drewN ?_ _) | (with_reducible refine Kd.C_drew ?_)))
             (case side2 => exact HC0_1.out)
             (case side3 => repeat (first | exact (Kd.C_below HR0_3.out HB.out) | (with_reducible refine Kd.C_alloc ?_ _) | (with_reducible refine Kd.C_drewN ?_ _) | (with_reducible refine Kd.C_drew ?_)))
             (case side4 => exact HC0_3.out)
             (case side5 => repeat (first | exact (Kd.C_below HR0_4.out HB.out) | (with_reducible refine Kd.C_alloc ?_ _) | (with_reducible refine Kd.C_drewN ?_ _) | (with_reducible refine Kd.C_drew ?_)))
             (case side6 => exact HC0_4.out)
             (case side7 => repeat (first | exact (Kd.C_below HR0_5.out HB.out) | (with_reducible refine Kd.C_alloc ?_ _) | (with_reducible refine Kd.C_drewN ?_ _) | (with_reducible refine Kd.C_drew ?_)))
             (case side8 => exact HC0_5.out)
             (case side9 => repeat (first | exact (Kd.C_below HR0_6.out HB.out) | (with_reducible refine Kd.C_alloc ?_ _) | (with_reducible refine Kd.C_drewN ?_ _) | (with_reducible refine Kd.C_drew ?_)))
             (case side10 => exact HC0_6.out)
             (case side11 => repeat (first | exact (Kd.C_below HR0_7.out HB.out) | (with_reducible refine Kd.C_alloc ?_ _) | (with_reducible refine Kd.C_drewN ?_ _) | (with_reducible refine Kd.C_drew ?_)))
             (case side12 => exact HC0_7.out)
             (case side13 => repeat (first | exact (Kd.C_below HR0_8.out HB.out) | (with_reducible refine Kd.C_alloc ?_ _) | (with_reducible refine Kd.C_drewN ?_ _) | (with_reducible refine Kd.C_drew ?_)))
             (case side14 => exact HC0_8.out)
             (case side15 => repeat (first | exact (Kd.C_below HR0_9.out HB.out) | (with_reducible refine Kd.C_alloc ?_ _) | (with_reducible refine Kd.C_drewN ?_ _) | (with_reducible refine Kd.C_drew ?_)))
             (case side16 => exact HC0_9.out)
             rintro e w39 ⟨v370,rfl,ho0,hb⟩
             refine ⟨_,rfl,?_⟩
             have n0_ := Aside0.mk (Kd.R_below (by (with_reducible repeat (first | apply Kd.R_alloc | apply Kd.R_drewN | apply Kd.R_drew));exact HO_11.out) hb)
             have n1_ := Aside0.mk (Kd.R_elder' (by (with_reducible repeat (first | apply Kd.R_alloc | apply Kd.R_drewN | apply Kd.R_drew));exact HO_12.out) (Kd.R_base ho0) hb)
             have n2_ := Aside0.mk (Kd.R_elder' (by (with_reducible repeat (first | apply Kd.R_alloc | apply Kd.R_drewN | apply Kd.R_drew));exact HO_14.out) (Kd.R_base ho0) hb)
             have n3_ := Aside0.mk (Kd.R_lower (Kd.R_new' (Kd.R_new' ho0 (Kd.R_lt (by (with_reducible repeat (first | apply Kd.R_alloc | apply Kd.R_drewN | apply Kd.R_drew));exact HO_12.out))) (Kd.R_lt (by (with_reducible repeat (first | apply Kd.R_alloc | apply Kd.R_drewN | apply Kd.R_drew));exact HO_14.out))) (below_size (by repeat (first | (with_reducible first | exact HB.out | apply below_alloc | apply pw_below_drewN | apply below_drew1 | refine below_set ?_ GE343.out) | exact HB.out))))
             have n4_ := Aside0.mk (blk_below (g := gb343) (o := .cells #[.string a0_0,.slice A0_1 l0_1.length c0_1,.int .i64 a0_2,.slice A0_3 l0_3.length c0_3,.slice A0_4 l0_4.length c0_4,.slice A0_5 l0_5.length c0_5,.slice A0_6 l0_6.length c0_6,.slice A0_7 l0_7.length c0_7,.slice A0_8 l0_8.length c0_8,.slice A0_9 l0_9.length c0_9,.int .i64 a0_10] 31 (0,0)) (by (with_reducible repeat (first | refine blk_drewN ?_ _ | refine blk_drew ?_ | refine blk_alloc ?_ _));exact BK343.out) hb)
             have n5_ := Aside0.mk (below_step (by repeat (first | (with_reducible first | exact HB.out | apply below_alloc | apply pw_below_drewN | apply below_drew1 | refine below_set ?_ GE343.out) | exact HB.out)) hb)
             clear HO_11
             clear HO_12
             clear HO_14
             clear BK343
             clear HB
             have HO_11 := n0_
             have HO_12 := n1_
             have HO_14 := n2_
             have HO371 := n3_
             have BK343 := n4_
             have HB := n5_
             clear n0_ n1_ n2_ n3_ n4_ n5_
             (try clear hb)
             (try clear hb2)
             (try clear hk)
             (try clear hi)
             (try clear ho0)
             refine hK.out _ _ ⟨(blk_cell BK343.out 0).trans rfl,(blk_cell BK343.out 1).trans rfl,(blk_cell BK343.out 2).trans rfl,(blk_cell BK343.out 3).trans rfl,(blk_cell BK343.out 4).trans rfl,(blk_cell BK343.out 5).trans rfl,(blk_cell BK343.out 6).trans rfl,(blk_cell BK343.out 7).trans rfl,(blk_cell BK343.out 8).trans rfl,(blk_cell BK343.out 9).trans rfl,(blk_cell BK343.out 10).trans rfl,((HB.out.cell (World.block_lt_of_cell? w _ hw368_0)).trans hw368_0),((HB.out.cell (World.block_lt_of_cell? w _ hw368_1)).trans hw368_1),((HB.out.cell (World.block_lt_of_cell? w _ hw368_2)).trans hw368_2),((HB.out.cell (World.block_lt_of_cell? w _ hw368_3)).trans hw368_3),((HB.out.cell (World.block_lt_of_cell? w _ hw368_4)).trans hw368_4),((HB.out.cell (World.block_lt_of_cell? w _ hw368_5)).trans hw368_5),((HB.out.cell (World.block_lt_of_cell? w _ hw368_6)).trans hw368_6),((HB.out.cell (World.block_lt_of_cell? w _ hw368_7)).trans hw368_7),((HB.out.cell (World.block_lt_of_cell? w _ hw368_8)).trans hw368_8)⟩ (fun hHeld => ?_)
             clear hK K
             refine norm_ (a' := ?_) ?_ ?_
             rotate_left
             ·show Act.put _ (some 79) _ = _
              simp only [Act.put,List.setIfInBounds_toArray,List.set_cons_zero,List.set_cons_succ,i64_w,i32_w]
              rfl
             refine pure_ (i := 7) (N := some 16) (v := ?_) (a' := ?_) #[true,true,true,true,true,true,true,true] rfl rfl (any_of HT_.out (by kernel_rfl)) (fun _ _ _ h => h) (Or.inl ⟨by rfl,?_⟩) ?_ ?_
             rotate_left
             ·intro w'
              go_simp
              with_reducible rfl
             rotate_left
             ·simp only [Act.put,List.setIfInBounds_toArray,List.set_cons_zero,List.set_cons_succ,i64_w,i32_w]
              rfl
             refine done_ (done_of HT_.out (by kernel_rfl)) ?_
             have p372 : 0 ≤ (x15_3 : Int) := of_decide_eq_true (by first | (with_reducible assumption) | assumption)
             have q372 : x15_3 < (l1.length : Int) := of_decide_eq_true (by first | (with_reducible assumption) | assumption)
             obtain ⟨ad372,e372,hx372_0,hx372_1,hx372_2,hx372_3,hx372_4,hx372_5,hx372_6,hx372_7,hx372_8⟩ := at_T45 HR1.out x15_3 p372 q372
             obtain rfl : ad368 = ad372 := (by injection e372)
             replace hx372_0 := (HB.out.cell (World.block_lt_of_cell? w _ hx372_0)).trans hx372_0
             replace hx372_1 := (HB.out.cell (World.block_lt_of_cell? w _ hx372_1)).trans hx372_1
             replace hx372_2 := (HB.out.cell (World.block_lt_of_cell? w _ hx372_2)).trans hx372_2
             replace hx372_3 := (HB.out.cell (World.block_lt_of_cell? w _ hx372_3)).trans hx372_3
             replace hx372_4 := (HB.out.cell (World.block_lt_of_cell? w _ hx372_4)).trans hx372_4
             replace hx372_5 := (HB.out.cell (World.block_lt_of_cell? w _ hx372_5)).trans hx372_5
             replace hx372_6 := (HB.out.cell (World.block_lt_of_cell? w _ hx372_6)).trans hx372_6
             replace hx372_7 := (HB.out.cell (World.block_lt_of_cell? w _ hx372_7)).trans hx372_7
             replace hx372_8 := (HB.out.cell (World.block_lt_of_cell? w _ hx372_8)).trans hx372_8
             replace p372 := eq_true p372
             replace q372 := eq_true q372
             obtain ⟨Ao40,co40,eo40⟩ := Kd.R_slice HO371.out
             subst eo40
             go_upto_if 88 with (fail)
             go_cut [17] (fun v17 wc => ∃ (kq : Nat) (x17_36 : Int),v17 = .int .i64 x17_36 ∧ Aside0 (bournelaw37_AllotFirst.j3 kq l1 t344 t346 t349 x14_3 x15_3 t369 x17_36 a0_0 l0_1 a0_2 l0_3 l0_4 l0_5 l0_6 l0_7 l0_8 l0_9 a0_10 = some r) ∧ Aside0 (kq ≤ k3) ∧ Aside0 (Kd.R k47 47 wc w.heap.size (fun _ => True) v347 t346) ∧ Aside0 (Kd.R (Kd.int .i64) 3 wc w.heap.size (fun k_ => some k_ ≠ (v360 : Value).ownBlock ∧ some k_ ≠ ((.slice Ao40 t369.length co40) : Value).ownBlock) v350 t349) ∧ Aside0 (Kd.R (Kd.int .i64) 3 wc w.heap.size (fun k_ => some k_ ≠ (v350 : Value).ownBlock ∧ some k_ ≠ ((.slice Ao40 t369.length co40) : Value).ownBlock) v360 x14_3) ∧ Aside0 (Kd.R (Kd.int .i64) 3 wc w.heap.size (fun k_ => some k_ ≠ (v350 : Value).ownBlock ∧ some k_ ≠ (v360 : Value).ownBlock) (.slice Ao40 t369.length co40) t369) ∧ Aside0 (wc.heap[gb343]? = some (.cells #[.string a0_0,(.slice A0_1 l0_1.length c0_1),.int .i64 a0_2,(.slice A0_3 l0_3.length c0_3),(.slice A0_4 l0_4.length c0_4),(.slice A0_5 l0_5.length c0_5),(.slice A0_6 l0_6.length c0_6),(.slice A0_7 l0_7.length c0_7),(.slice A0_8 l0_8.length c0_8),(.slice A0_9 l0_9.length c0_9),.int .i64 a0_10] 31 (0,0))) ∧ Aside0 (Below w.heap.size w wc))
             case first =>
              have H := HC37.out
              clear HC37
              by_cases c41 : (t369.length : Int) = 0
              ·rw [if_pos c41] at H
               have c41b0 : ((t369.length : Int) == 0) = true := beq_iff_eq.mpr c41
               have c41b1 : ((t369.length : Int) != 0) = false := bne_eq_false_iff_eq.mpr c41
               clear c41
               (first | rw [c41b0] | (simp only [i64_w,i32_w];rw [c41b0]) | skip)
               have H' := Aside0.mk H
               clear H
               go_wp2
               go_meet
               case rel => exact ⟨_,(0),(by first | rfl | (simp;done) | (simp [*];done)),H',⟨by have := HJ6.out;have := HJ18.out;have := HK3.out;first | omega | exact Nat.le_refl _⟩,⟨by (with_reducible repeat (first | apply Kd.R_alloc | apply Kd.R_drewN | apply Kd.R_drew));exact HO_11.out⟩,⟨by (with_reducible repeat (first | apply Kd.R_alloc | apply Kd.R_drewN | apply Kd.R_drew));exact HO_12.out⟩,⟨by (with_reducible repeat (first | apply Kd.R_alloc | apply Kd.R_drewN | apply Kd.R_drew));exact HO_14.out⟩,⟨by (with_reducible repeat (first | apply Kd.R_alloc | apply Kd.R_drewN | apply Kd.R_drew));exact Kd.R_mono HO371.out (fun _ hk => ⟨hk.1.2,hk.2⟩)⟩,⟨by (with_reducible repeat (first | refine blk_drewN ?_ _ | refine blk_drew ?_ | refine blk_alloc ?_ _));exact BK343.out⟩,⟨by repeat (first | (with_reducible first | exact HB.out | apply below_alloc | apply pw_below_drewN | apply below_drew1 | refine below_set ?_ GE343.out) | exact HB.out)⟩⟩
              ·rw [if_neg c41] at H
               have c41b0 : ((t369.length : Int) == 0) = false := beq_eq_false_iff_ne.mpr c41
               have c41b1 : ((t369.length : Int) != 0) = true := bne_iff_ne.mpr c41
               have c41b2 : ¬ (t369 = []) := fun h_ => c41 (by rw [h_];rfl)
               (first | rw [c41b0] | (simp only [i64_w,i32_w];rw [c41b0]) | skip)
               have H' := Aside0.mk H
               clear H
               go_wp2
               go_meet
               case rel => exact ⟨_,(ji36),(by first | rfl | (simp;done) | (simp only [← hji36] <;> (first | rfl | simp)) | (simp [*];done)),H',⟨by have := HJ6.out;have := HJ18.out;have := HK3.out;first | omega | exact Nat.le_refl _⟩,⟨by (with_reducible repeat (first | apply Kd.R_alloc | apply Kd.R_drewN | apply Kd.R_drew));exact HO_11.out⟩,⟨by (with_reducible repeat (first | apply Kd.R_alloc | apply Kd.R_drewN | apply Kd.R_drew));exact HO_12.out⟩,⟨by (with_reducible repeat (first | apply Kd.R_alloc | apply Kd.R_drewN | apply Kd.R_drew));exact HO_14.out⟩,⟨by (with_reducible repeat (first | apply Kd.R_alloc | apply Kd.R_drewN | apply Kd.R_drew));exact Kd.R_mono HO371.out (fun _ hk => ⟨hk.1.2,hk.2⟩)⟩,⟨by (with_reducible repeat (first | refine blk_drewN ?_ _ | refine blk_drew ?_ | refine blk_alloc ?_ _));exact BK343.out⟩,⟨by repeat (first | (with_reducible first | exact HB.out | apply below_alloc | apply pw_below_drewN | apply below_drew1 | refine below_set ?_ GE343.out) | exact HB.out)⟩⟩
             case rest =>
              clear HC37
              try clear c1
              try clear c2
              try clear p2
              try clear q2
              try clear c3
              try clear p3
              try clear q3
              try clear hx3
              try clear c4
              try clear c5
              try clear c8
              try clear c9
              try clear c10
              try clear c12
              try clear c13
              try clear c13b0
              try clear c14
              try clear c16
              try clear c16b0
              try clear c16b1
              try clear c17
              try clear c17b0
              try clear c17b1
              try clear q23
              try clear c25
              try clear c25b0
              try clear c25b1
              try clear c25b2
              try clear c26
              try clear c26b0
              try clear c27
              try clear c27b0
              try clear c27b1
              try clear q30
              try clear c32
              try clear c33
              try clear c33b0
              try clear c34
              try clear c34b0
              try clear p36
              try clear q36
              try clear hx36
              try clear p37
              try clear q37
              try clear hx37
              try clear c41
              try clear c41b0
              try clear c41b1
              try clear c41b2
              try clear hcz10_0
              try clear hcz10_1
              try clear hcz10_10
              try clear hcz10_2
              try clear hcz10_3
              try clear hcz10_4
              try clear hcz10_5
              try clear hcz10_6
              try clear hcz10_7
              try clear hcz10_8
              try clear hcz10_9
              try clear hcz20_0
              try clear hcz20_1
              try clear hcz20_10
              try clear hcz20_2
              try clear hcz20_3
              try clear hcz20_4
              try clear hcz20_5
              try clear hcz20_6
              try clear hcz20_7
              try clear hcz20_8
              try clear hcz20_9
              try clear hfz10_0
              try clear hfz10_1
              try clear hfz10_10
              try clear hfz10_2
              try clear hfz10_3
              try clear hfz10_4
              try clear hfz10_5
              try clear hfz10_6
              try clear hfz10_7
              try clear hfz10_8
              try clear hfz10_9
              try clear hfz20_0
              try clear hfz20_1
              try clear hfz20_10
              try clear hfz20_2
              try clear hfz20_3
              try clear hfz20_4
              try clear hfz20_5
              try clear hfz20_6
              try clear hfz20_7
              try clear hfz20_8
              try clear hfz20_9
              try clear hx368_0
              try clear hx368_1
              try clear hx368_2
              try clear hx368_3
              try clear hx368_4
              try clear hx368_5
              try clear hx368_6
              try clear hx368_7
              try clear hx368_8
              try clear hx372_0
              try clear hx372_1
              try clear hx372_2
              try clear hx372_3
              try clear hx372_4
              try clear hx372_5
              try clear hx372_6
              try clear hx372_7
              try clear hx372_8
              try clear p2
              try clear p368
              try clear p372
              try clear q2
              try clear q23
              try clear q3
              try clear q30
              try clear q368
              try clear q372
              obtain ⟨kq,x17_36,rfl,HA,HJ36,HO_11,HO_12,HO_14,HO_16,BK343,HB⟩ := hcut
              cases kq with
              | zero => exact absurd HA.out (by simp [bournelaw37_AllotFirst.j3])
              | succ kj36 =>
               have H := HA.out
               clear HA
               simp only [bournelaw37_AllotFirst.j3] at H
               have H' := Aside0.mk H
               clear H
               go_wp2
               go_loopg [17,18] kj36 (fun kq v17 v18 w' => ∃ (x17_5 : Int) (x18_5 : Int),v17 = .int .i64 x17_5 ∧ v18 = .int .i64 x18_5 ∧ Aside0 (bournelaw37_AllotFirst.l1 kq l1 t344 t346 t349 x14_3 x15_3 t369 x17_5 x18_5 a0_0 l0_1 a0_2 l0_3 l0_4 l0_5 l0_6 l0_7 l0_8 l0_9 a0_10 = some r) ∧ Aside0 (kq ≤ kj36) ∧ Aside0 (Kd.R k47 47 w' w.heap.size (fun _ => True) v347 t346) ∧ Aside0 (Kd.R (Kd.int .i64) 3 w' w.heap.size (fun k_ => some k_ ≠ (v360 : Value).ownBlock ∧ some k_ ≠ ((.slice Ao40 t369.length co40) : Value).ownBlock) v350 t349) ∧ Aside0 (Kd.R (Kd.int .i64) 3 w' w.heap.size (fun k_ => some k_ ≠ (v350 : Value).ownBlock ∧ some k_ ≠ ((.slice Ao40 t369.length co40) : Value).ownBlock) v360 x14_3) ∧ Aside0 (Kd.R (Kd.int .i64) 3 w' w.heap.size (fun k_ => some k_ ≠ (v350 : Value).ownBlock ∧ some k_ ≠ (v360 : Value).ownBlock) (.slice Ao40 t369.length co40) t369) ∧ Aside0 (w'.heap[gb343]? = some (.cells #[.string a0_0,(.slice A0_1 l0_1.length c0_1),.int .i64 a0_2,(.slice A0_3 l0_3.length c0_3),(.slice A0_4 l0_4.length c0_4),(.slice A0_5 l0_5.length c0_5),(.slice A0_6 l0_6.length c0_6),(.slice A0_7 l0_7.length c0_7),(.slice A0_8 l0_8.length c0_8),(.slice A0_9 l0_9.length c0_9),.int .i64 a0_10] 31 (0,0))) ∧ Aside0 (Below w.heap.size w w'))
               case atStart => exact ⟨(x17_36),(0),(by first | rfl | (simp;done) | (simp [*];done)),(by first | rfl | (simp;done) | (simp [*];done)),H',⟨Nat.le_refl _⟩,⟨by (with_reducible repeat (first | apply Kd.R_alloc | apply Kd.R_drewN | apply Kd.R_drew));exact HO_11.out⟩,⟨by (with_reducible repeat (first | apply Kd.R_alloc | apply Kd.R_drewN | apply Kd.R_drew));exact HO_12.out⟩,⟨by (with_reducible repeat (first | apply Kd.R_alloc | apply Kd.R_drewN | apply Kd.R_drew));exact HO_14.out⟩,⟨by (with_reducible repeat (first | apply Kd.R_alloc | apply Kd.R_drewN | apply Kd.R_drew));exact HO_16.out⟩,⟨by (with_reducible repeat (first | refine blk_drewN ?_ _ | refine blk_drew ?_ | refine blk_alloc ?_ _));exact BK343.out⟩,⟨by repeat (first | (with_reducible first | exact HB.out | apply below_alloc | apply pw_below_drewN | apply below_drew1 | refine below_set ?_ GE343.out) | exact HB.out)⟩⟩
               case round =>
                clear H'
                try clear c1
                try clear c2
                try clear p2
                try clear q2
                try clear c3
                try clear p3
                try clear q3
                try clear hx3
                try clear c4
                try clear c5
                try clear c8
                try clear c9
                try clear c10
                try clear c12
                try clear c13
                try clear c13b0
                try clear c14
                try clear c16
                try clear c16b0
                try clear c16b1
                try clear c17
                try clear c17b0
                try clear c17b1
                try clear q23
                try clear c25
                try clear c25b0
                try clear c25b1
                try clear c25b2
                try clear c26
                try clear c26b0
                try clear c27
                try clear c27b0
                try clear c27b1
                try clear q30
                try clear c32
                try clear c33
                try clear c33b0
                try clear c34
                try clear c34b0
                try clear p36
                try clear q36
                try clear hx36
                try clear p37
                try clear q37
                try clear hx37
                try clear c41
                try clear c41b0
                try clear c41b1
                try clear c41b2
                try clear hcz10_0
                try clear hcz10_1
                try clear hcz10_10
                try clear hcz10_2
                try clear hcz10_3
                try clear hcz10_4
                try clear hcz10_5
                try clear hcz10_6
                try clear hcz10_7
                try clear hcz10_8
                try clear hcz10_9
                try clear hcz20_0
                try clear hcz20_1
                try clear hcz20_10
                try clear hcz20_2
                try clear hcz20_3
                try clear hcz20_4
                try clear hcz20_5
                try clear hcz20_6
                try clear hcz20_7
                try clear hcz20_8
                try clear hcz20_9
                try clear hfz10_0
                try clear hfz10_1
                try clear hfz10_10
                try clear hfz10_2
                try clear hfz10_3
                try clear hfz10_4
                try clear hfz10_5
                try clear hfz10_6
                try clear hfz10_7
                try clear hfz10_8
                try clear hfz10_9
                try clear hfz20_0
                try clear hfz20_1
                try clear hfz20_10
                try clear hfz20_2
                try clear hfz20_3
                try clear hfz20_4
                try clear hfz20_5
                try clear hfz20_6
                try clear hfz20_7
                try clear hfz20_8
                try clear hfz20_9
                try clear hx368_0
                try clear hx368_1
                try clear hx368_2
                try clear hx368_3
                try clear hx368_4
                try clear hx368_5
                try clear hx368_6
                try clear hx368_7
                try clear hx368_8
                try clear hx372_0
                try clear hx372_1
                try clear hx372_2
                try clear hx372_3
                try clear hx372_4
                try clear hx372_5
                try clear hx372_6
                try clear hx372_7
                try clear hx372_8
                try clear p2
                try clear p3
                try clear p36
                try clear p368
                try clear p37
                try clear p372
                try clear q2
                try clear q23
                try clear q3
                try clear q30
                try clear q36
                try clear q368
                try clear q37
                try clear q372
                obtain ⟨x17_5,x18_5,rfl,rfl,HA,HK5,HO_11,HO_12,HO_14,HO_16,BK343,HB⟩ := hrel
                cases gk with
                | zero => exact absurd HA.out (by simp [bournelaw37_AllotFirst.l1])
                | succ k5 =>
                 have H := HA.out
                 clear HA
                 simp only [bournelaw37_AllotFirst.l1] at H
                 by_cases c42 : x18_5 < (t369.length : Int)
                 ·rw [if_pos c42] at H
                  have c42b0 : decide (x18_5 < (t369.length : Int)) = true := decide_eq_true c42
                  clear c42
                  by_cases c43 : 0 ≤ x18_5
                  ·rw [if_pos c43] at H
                   have c43b0 : decide (0 ≤ x18_5) = true := decide_eq_true c43
                   clear c43
                   by_cases c44 : 0 ≤ (rd t369 x18_5)
                   ·rw [if_pos c44] at H
                    have c44b0 : decide (0 ≤ (rd t369 x18_5)) = true := decide_eq_true c44
                    clear c44
                    by_cases c45 : (rd t369 x18_5) < (x14_3.length : Int)
                    ·rw [if_pos c45] at H
                     have c45b0 : decide ((rd t369 x18_5) < (x14_3.length : Int)) = true := decide_eq_true c45
                     clear c45
                     obtain ⟨ji46,hji46⟩ : ∃ j_ : Int,(mn x17_5 (rd x14_3 (rd t369 x18_5))) = j_ := ⟨_,rfl⟩
                     replace H : (bournelaw37_AllotFirst.l1 k5 l1 t344 t346 t349 x14_3 x15_3 t369 ji46 (wrap64 (x18_5 + 1)) a0_0 l0_1 a0_2 l0_3 l0_4 l0_5 l0_6 l0_7 l0_8 l0_9 a0_10) = some r := by first | (rw [hji46] at H;exact H) | (simp only [hji46] at H ⊢;exact H)
                     have hji46_ : (if (rd x14_3 (rd t369 x18_5)) < x17_5 then (rd x14_3 (rd t369 x18_5)) else x17_5) = ji46 := hji46
                     have H' := Aside0.mk H
                     clear H
                     have p373 : 0 ≤ (x18_5 : Int) := of_decide_eq_true (by first | (with_reducible assumption) | assumption)
                     have q373 : x18_5 < (t369.length : Int) := of_decide_eq_true (by first | (with_reducible assumption) | assumption)
                     obtain ⟨ad373,e373,hx373_0⟩ := Kd.at_int (Kd.R_reads' HO_16.out).2.2 x18_5 p373 q373
                     cases e373
                     replace p373 := eq_true p373
                     replace q373 := eq_true q373
                     obtain ⟨Ao47,co47,eo47⟩ := Kd.R_slice HO_14.out
                     subst eo47
                     have p374 : 0 ≤ ((rd t369 x18_5) : Int) := of_decide_eq_true (by first | (with_reducible assumption) | assumption)
                     have q374 : (rd t369 x18_5) < (x14_3.length : Int) := of_decide_eq_true (by first | (with_reducible assumption) | assumption)
                     obtain ⟨ad374,e374,hx374_0⟩ := Kd.at_int (Kd.R_reads' HO_14.out).2.2 (rd t369 x18_5) p374 q374
                     cases e374
                     replace p374 := eq_true p374
                     replace q374 := eq_true q374
                     go_wp2
                     go_roundg k5
                     case measure => have := HJ6.out;have := HJ18.out;have := HK3.out;have := HJ36.out;have := HK5.out;omega
                     case rel => exact ⟨(ji46),(wrap64 (x18_5 + 1)),(by first | rfl | (simp;done) | (simp only [← hji46] <;> (first | rfl | simp)) | (simp [*];done)),(by first | rfl | (simp;done) | (simp [*];done)),H',⟨by have := HJ6.out;have := HJ18.out;have := HK3.out;have := HJ36.out;have := HK5.out;omega⟩,⟨by (with_reducible repeat (first | apply Kd.R_alloc | apply Kd.R_drewN | apply Kd.R_drew));exact HO_11.out⟩,⟨by (with_reducible repeat (first | apply Kd.R_alloc | apply Kd.R_drewN | apply Kd.R_drew));exact HO_12.out⟩,⟨by (with_reducible repeat (first | apply Kd.R_alloc | apply Kd.R_drewN | apply Kd.R_drew));exact HO_14.out⟩,⟨by (with_reducible repeat (first | apply Kd.R_alloc | apply Kd.R_drewN | apply Kd.R_drew));exact HO_16.out⟩,⟨by (with_reducible repeat (first | refine blk_drewN ?_ _ | refine blk_drew ?_ | refine blk_alloc ?_ _));exact BK343.out⟩,⟨by repeat (first | (with_reducible first | exact HB.out | apply below_alloc | apply pw_below_drewN | apply below_drew1 | refine below_set ?_ GE343.out) | exact HB.out)⟩⟩
                    ·rw [if_neg c45] at H
                     exact absurd H (by simp)
                   ·rw [if_neg c44] at H
                    exact absurd H (by simp)
                  ·rw [if_neg c43] at H
                   exact absurd H (by simp)
                 ·rw [if_neg c42] at H
                  have c42b0 : decide (x18_5 < (t369.length : Int)) = false := decide_eq_false c42
                  clear c42
                  have H' := Aside0.mk H
                  clear H
                  go_wp2
                  go_loopg [19] k5 (fun kq v19 w' => ∃ (x14_6 : List Int) (x19_6 : Int),v19 = .int .i64 x19_6 ∧ Aside0 (bournelaw37_AllotFirst.l2 kq l1 t344 t346 t349 x14_6 x15_3 t369 x17_5 x19_6 a0_0 l0_1 a0_2 l0_3 l0_4 l0_5 l0_6 l0_7 l0_8 l0_9 a0_10 = some r) ∧ Aside0 (kq ≤ k5) ∧ Aside0 (Kd.R k47 47 w' w.heap.size (fun _ => True) v347 t346) ∧ Aside0 (Kd.R (Kd.int .i64) 3 w' w.heap.size (fun k_ => some k_ ≠ (v360 : Value).ownBlock ∧ some k_ ≠ ((.slice Ao40 t369.length co40) : Value).ownBlock) v350 t349) ∧ Aside0 (Kd.R (Kd.int .i64) 3 w' w.heap.size (fun k_ => some k_ ≠ (v350 : Value).ownBlock ∧ some k_ ≠ ((.slice Ao40 t369.length co40) : Value).ownBlock) v360 x14_6) ∧ Aside0 (Kd.R (Kd.int .i64) 3 w' w.heap.size (fun k_ => some k_ ≠ (v350 : Value).ownBlock ∧ some k_ ≠ (v360 : Value).ownBlock) (.slice Ao40 t369.length co40) t369) ∧ Aside0 (w'.heap[gb343]? = some (.cells #[.string a0_0,(.slice A0_1 l0_1.length c0_1),.int .i64 a0_2,(.slice A0_3 l0_3.length c0_3),(.slice A0_4 l0_4.length c0_4),(.slice A0_5 l0_5.length c0_5),(.slice A0_6 l0_6.length c0_6),(.slice A0_7 l0_7.length c0_7),(.slice A0_8 l0_8.length c0_8),(.slice A0_9 l0_9.length c0_9),.int .i64 a0_10] 31 (0,0))) ∧ Aside0 (Below w.heap.size w w'))
                  case atStart => exact ⟨(x14_3),(0),(by first | rfl | (simp;done) | (simp [*];done)),H',⟨Nat.le_refl _⟩,⟨by (with_reducible repeat (first | apply Kd.R_alloc | apply Kd.R_drewN | apply Kd.R_drew));exact HO_11.out⟩,⟨by (with_reducible repeat (first | apply Kd.R_alloc | apply Kd.R_drewN | apply Kd.R_drew));exact HO_12.out⟩,⟨by (with_reducible repeat (first | apply Kd.R_alloc | apply Kd.R_drewN | apply Kd.R_drew));exact HO_14.out⟩,⟨by (with_reducible repeat (first | apply Kd.R_alloc | apply Kd.R_drewN | apply Kd.R_drew));exact HO_16.out⟩,⟨by (with_reducible repeat (first | refine blk_drewN ?_ _ | refine blk_drew ?_ | refine blk_alloc ?_ _));exact BK343.out⟩,⟨by repeat (first | (with_reducible first | exact HB.out | apply below_alloc | apply pw_below_drewN | apply below_drew1 | refine below_set ?_ GE343.out) | exact HB.out)⟩⟩
                  case round =>
                   clear H'
                   try clear c1
                   try clear c2
                   try clear p2
                   try clear q2
                   try clear c3
                   try clear p3
                   try clear q3
                   try clear hx3
                   try clear c4
                   try clear c5
                   try clear p6
                   try clear c8
                   try clear c9
                   try clear c10
                   try clear c12
                   try clear c13
                   try clear c13b0
                   try clear c14
                   try clear c16
                   try clear c16b0
                   try clear c16b1
                   try clear c17
                   try clear c17b0
                   try clear c17b1
                   try clear q23
                   try clear c25
                   try clear c25b0
                   try clear c25b1
                   try clear c25b2
                   try clear c26
                   try clear c26b0
                   try clear c27
                   try clear c27b0
                   try clear c27b1
                   try clear q30
                   try clear c32
                   try clear c33
                   try clear c33b0
                   try clear c34
                   try clear c34b0
                   try clear p36
                   try clear q36
                   try clear hx36
                   try clear p37
                   try clear q37
                   try clear hx37
                   try clear c41
                   try clear c41b0
                   try clear c41b1
                   try clear c41b2
                   try clear c42
                   try clear c42b0
                   try clear c43
                   try clear c43b0
                   try clear c44
                   try clear c44b0
                   try clear c45
                   try clear c45b0
                   try clear hcz10_0
                   try clear hcz10_1
                   try clear hcz10_10
                   try clear hcz10_2
                   try clear hcz10_3
                   try clear hcz10_4
                   try clear hcz10_5
                   try clear hcz10_6
                   try clear hcz10_7
                   try clear hcz10_8
                   try clear hcz10_9
                   try clear hcz20_0
                   try clear hcz20_1
                   try clear hcz20_10
                   try clear hcz20_2
                   try clear hcz20_3
                   try clear hcz20_4
                   try clear hcz20_5
                   try clear hcz20_6
                   try clear hcz20_7
                   try clear hcz20_8
                   try clear hcz20_9
                   try clear hfz10_0
                   try clear hfz10_1
                   try clear hfz10_10
                   try clear hfz10_2
                   try clear hfz10_3
                   try clear hfz10_4
                   try clear hfz10_5
                   try clear hfz10_6
                   try clear hfz10_7
                   try clear hfz10_8
                   try clear hfz10_9
                   try clear hfz20_0
                   try clear hfz20_1
                   try clear hfz20_10
                   try clear hfz20_2
                   try clear hfz20_3
                   try clear hfz20_4
                   try clear hfz20_5
                   try clear hfz20_6
                   try clear hfz20_7
                   try clear hfz20_8
                   try clear hfz20_9
                   try clear hx368_0
                   try clear hx368_1
                   try clear hx368_2
                   try clear hx368_3
                   try clear hx368_4
                   try clear hx368_5
                   try clear hx368_6
                   try clear hx368_7
                   try clear hx368_8
                   try clear hx372_0
                   try clear hx372_1
                   try clear hx372_2
                   try clear hx372_3
                   try clear hx372_4
                   try clear hx372_5
                   try clear hx372_6
                   try clear hx372_7
                   try clear hx372_8
                   try clear hx373_0
                   try clear hx374_0
                   try clear p2
                   try clear p3
                   try clear p36
                   try clear p368
                   try clear p37
                   try clear p372
                   try clear p373
                   try clear p374
                   try clear q2
                   try clear q23
                   try clear q3
                   try clear q30
                   try clear q36
                   try clear q368
                   try clear q37
                   try clear q372
                   try clear q373
                   try clear q374
                   obtain ⟨x14_6,x19_6,rfl,HA,HK6,HO_11,HO_12,HO_14,HO_16,BK343,HB⟩ := hrel
                   cases gk with
                   | zero => exact absurd HA.out (by simp [bournelaw37_AllotFirst.l2])
                   | succ k6 =>
                    have H := HA.out
                    clear HA
                    simp only [bournelaw37_AllotFirst.l2] at H
                    by_cases c48 : x19_6 < (t369.length : Int)
                    ·rw [if_pos c48] at H
                     have c48b0 : decide (x19_6 < (t369.length : Int)) = true := decide_eq_true c48
                     clear c48
                     by_cases c49 : 0 ≤ x19_6
                     ·rw [if_pos c49] at H
                      have c49b0 : decide (0 ≤ x19_6) = true := decide_eq_true c49
                      clear c49
                      by_cases c50 : 0 ≤ (rd t369 x19_6)
                      ·rw [if_pos c50] at H
                       have c50b0 : decide (0 ≤ (rd t369 x19_6)) = true := decide_eq_true c50
                       clear c50
                       by_cases c51 : (rd t369 x19_6) < (x14_6.length : Int)
                       ·rw [if_pos c51] at H
                        have c51b0 : decide ((rd t369 x19_6) < (x14_6.length : Int)) = true := decide_eq_true c51
                        clear c51
                        obtain ⟨y378,hy378⟩ : ∃ y_ : List Int,y_ = (x14_6.set ((rd t369 x19_6) : Int).toNat (wrap64 ((rd x14_6 (rd t369 x19_6)) - x17_5))) := ⟨_,rfl⟩
                        replace H : (bournelaw37_AllotFirst.l2 k6 l1 t344 t346 t349 y378 x15_3 t369 x17_5 (wrap64 (x19_6 + 1)) a0_0 l0_1 a0_2 l0_3 l0_4 l0_5 l0_6 l0_7 l0_8 l0_9 a0_10) = some r := by first | (rw [hy378];with_reducible exact H) | (have H2_ := (Option.bind_some _ _).symm.trans H;rw [hy378];with_reducible exact H2_) | (have H2_ := (Option.bind_some _ _).symm.trans H;with_reducible exact H2_) | with_reducible exact H | (rw [hy378];exact H) | exact H
                        have Ny378 := Aside0.mk hy378
                        clear hy378
                        have H' := Aside0.mk H
                        clear H
                        try go_wp2
                        (repeat (rw [drewN_self wr];generalize hq_ : World.drewN wr _ = wr;have n0_ : Aside0 (Kd.R k47 47 wr w.heap.size (fun _ => True) v347 t346) := ⟨by rw [← hq_];exact (by (with_reducible repeat (first | apply Kd.R_alloc | apply Kd.R_drewN | apply Kd.R_drew));exact HO_11.out)⟩;have n1_ : Aside0 (Kd.R (Kd.int .i64) 3 wr w.heap.size (fun k_ => some k_ ≠ (v360 : Value).ownBlock ∧ some k_ ≠ (.slice Ao40 t369.length co40 : Value).ownBlock) v350 t349) := ⟨by rw [← hq_];exact (by (with_reducible repeat (first | apply Kd.R_alloc | apply Kd.R_drewN | apply Kd.R_drew));exact HO_12.out)⟩;have n2_ : Aside0 (Kd.R (Kd.int .i64) 3 wr w.heap.size (fun k_ => some k_ ≠ (v350 : Value).ownBlock ∧ some k_ ≠ (.slice Ao40 t369.length co40 : Value).ownBlock) v360 x14_6) := ⟨by rw [← hq_];exact (by (with_reducible repeat (first | apply Kd.R_alloc | apply Kd.R_drewN | apply Kd.R_drew));exact HO_14.out)⟩;have n3_ : Aside0 (Kd.R (Kd.int .i64) 3 wr w.heap.size (fun k_ => some k_ ≠ (v350 : Value).ownBlock ∧ some k_ ≠ (v360 : Value).ownBlock) (.slice Ao40 t369.length co40) t369) := ⟨by rw [← hq_];exact (by (with_reducible repeat (first | apply Kd.R_alloc | apply Kd.R_drewN | apply Kd.R_drew));exact HO_16.out)⟩;have n4_ : Aside0 (wr.heap[gb343]? = some (.cells #[.string a0_0,.slice A0_1 l0_1.length c0_1,.int .i64 a0_2,.slice A0_3 l0_3.length c0_3,.slice A0_4 l0_4.length c0_4,.slice A0_5 l0_5.length c0_5,.slice A0_6 l0_6.length c0_6,.slice A0_7 l0_7.length c0_7,.slice A0_8 l0_8.length c0_8,.slice A0_9 l0_9.length c0_9,.int .i64 a0_10] 31 (0,0))) := ⟨by rw [← hq_];exact (by (with_reducible repeat (first | refine blk_drewN ?_ _ | refine blk_drew ?_ | refine blk_alloc ?_ _));exact BK343.out)⟩;have n5_ : Aside0 (Below w.heap.size w wr) := ⟨by rw [← hq_];exact (by repeat (first | (with_reducible first | exact HB.out | apply below_alloc | apply pw_below_drewN | apply below_drew1 | refine below_set ?_ GE343.out) | exact HB.out))⟩;clear HO_11 HO_12 HO_14 HO_16 BK343 HB hq_;have HO_11 := n0_;have HO_12 := n1_;have HO_14 := n2_;have HO_16 := n3_;have BK343 := n4_;have HB := n5_;clear n0_ n1_ n2_ n3_ n4_ n5_))
                        have n0_ := Aside0.mk (Kd.R_drew HO_11.out)
                        have n1_ := Aside0.mk (Kd.R_drew HO_12.out)
                        have n2_ := Aside0.mk (Kd.R_drew HO_14.out)
                        have n3_ := Aside0.mk (Kd.R_drew HO_16.out)
                        have n4_ := Aside0.mk (blk_drew BK343.out)
                        have n5_ := Aside0.mk (below_drew1 HB.out)
                        clear HO_11
                        clear HO_12
                        clear HO_14
                        clear HO_16
                        clear BK343
                        clear HB
                        have HO_11 := n0_
                        have HO_12 := n1_
                        have HO_14 := n2_
                        have HO_16 := n3_
                        have BK343 := n4_
                        have HB := n5_
                        clear n0_ n1_ n2_ n3_ n4_ n5_
                        have p375 : 0 ≤ (x19_6 : Int) := of_decide_eq_true (by first | (with_reducible assumption) | assumption)
                        have q375 : x19_6 < (t369.length : Int) := of_decide_eq_true (by first | (with_reducible assumption) | assumption)
                        obtain ⟨ad375,e375,hx375_0⟩ := Kd.at_int (Kd.R_reads' HO_16.out).2.2 x19_6 p375 q375
                        cases e375
                        replace p375 := eq_true p375
                        replace q375 := eq_true q375
                        have p376 : 0 ≤ (x19_6 : Int) := of_decide_eq_true (by first | (with_reducible assumption) | assumption)
                        have q376 : x19_6 < (t369.length : Int) := of_decide_eq_true (by first | (with_reducible assumption) | assumption)
                        obtain ⟨ad376,e376,hx376_0⟩ := Kd.at_int (Kd.R_reads' HO_16.out).2.2 x19_6 p376 q376
                        obtain rfl : ad375 = ad376 := (by injection e376)
                        replace p376 := eq_true p376
                        replace q376 := eq_true q376
                        obtain ⟨Ao54,co54,eo54⟩ := Kd.R_slice HO_14.out
                        (first | subst eo54 | (injection eo54 with f1_ f2_ f3_;have f4_ := f1_.symm;have f5_ := f3_.symm;clear f1_ f2_ f3_;subst f4_;subst f5_))
                        have p377 : 0 ≤ ((rd t369 x19_6) : Int) := of_decide_eq_true (by first | (with_reducible assumption) | assumption)
                        have q377 : (rd t369 x19_6) < (x14_6.length : Int) := of_decide_eq_true (by first | (with_reducible assumption) | assumption)
                        obtain ⟨ad377,e377,hx377_0⟩ := Kd.at_int (Kd.R_reads' HO_14.out).2.2 (rd t369 x19_6) p377 q377
                        cases e377
                        replace p377 := eq_true p377
                        replace q377 := eq_true q377
                        have p52 : 0 ≤ ((rd t369 x19_6) : Int) := of_decide_eq_true (by first | (with_reducible assumption) | assumption)
                        have q52 : ((rd t369 x19_6) : Int) < ((x14_6.length : Int) : Int) := of_decide_eq_true (by first | (with_reducible assumption) | assumption)
                        obtain ⟨go52,co52,eo52,gb52,gl52,cl52,HG52⟩ := Kd.R_form HO_14.out (by omega)
                        (first | cases eo52 | (injection eo52 with ea_ en_ ec_;(first | subst ea_ | (injection ea_ with ea_;subst ea_));subst ec_;clear en_))
                        have GB52 := Aside0.mk gb52
                        have GG52 := Aside0.mk HG52
                        clear gb52 gl52 HG52
                        (first | simp only [add_plain] at hx377_0 | skip)
                        obtain ⟨hx52_0,hf52_0⟩ := Kd.R_celln 0 HO_14.out ((rd t369 x19_6) : Int) p52 q52
                        replace p52 := eq_true p52
                        replace q52 := eq_true q52
                        have HP55 := Kd.R_putn HO_14.out ((rd t369 x19_6) : Int) (wrap64 ((rd x14_6 (rd t369 x19_6)) - x17_5))
                        rw [← Ny378.out] at HP55
                        have HQ55 := Aside0.mk HP55
                        clear HP55
                        refine start_ (n := 16) (S := fun w' => w'.cell? (ad375.add (x19_6).toNat) = some (.int .i64 (rd t369 x19_6)) ∧ w'.cell? (ad375.add (x19_6).toNat) = some (.int .i64 (rd t369 x19_6)) ∧ w'.cell? ⟨go52,((rd t369 x19_6)).toNat,none⟩ = some (.int .i64 (rd x14_6 (rd t369 x19_6)))) (ds := [15]) #[false,false,false,false,false,false,false,false,false,false,false,false,false,false,false,false] (by kernel_rfl) rfl rfl ⟨hx375_0,hx376_0,hx377_0⟩ (fun hHeld => ?_);refine with_tabW bournelaw37_AllotFirst.tab23 bournelaw37_AllotFirst.bits23 (fun HT_ HW_ => ?_)
                        generalize wr.drew = w53 at HO_11 HO_12 HO_14 HO_16 BK343 HB GG52 HQ55 hf52_0 hx375_0 hx376_0 hx377_0 hx52_0 hHeld ⊢
                        refine pure_ (i := 0) (N := some 110) (v := ?_) (a' := ?_) #[true,false,false,false,false,false,false,false,false,false,false,false,false,false,false,false] rfl rfl (any_of HT_.out (by kernel_rfl)) (fun _ _ _ h => h) (Or.inl ⟨by rfl,?_⟩) ?_ ?_
                        rotate_left
                        ·intro w'
                         go_simp
                         with_reducible rfl
                        rotate_left
                        ·simp only [Act.put,List.setIfInBounds_toArray,List.set_cons_zero,List.set_cons_succ,i64_w,i32_w]
                         rfl
                        refine pure_ (i := 1) (N := some 111) (v := ?_) (a' := ?_) #[true,true,false,false,false,false,false,false,false,false,false,false,false,false,false,false] rfl rfl (any_of HT_.out (by kernel_rfl)) (fun _ _ _ h => h) (Or.inl ⟨by rfl,?_⟩) ?_ ?_
                        rotate_left
                        ·intro w'
                         go_simp
                         with_reducible rfl
                        rotate_left
                        ·simp only [Act.put,List.setIfInBounds_toArray,List.set_cons_zero,List.set_cons_succ,i64_w,i32_w]
                         rfl
                        refine pure_ (i := 2) (N := some 112) (v := ?_) (a' := ?_) #[true,true,true,false,false,false,false,false,false,false,false,false,false,false,false,false] rfl rfl (any_of HT_.out (by kernel_rfl)) (fun _ _ _ h => h) (Or.inl ⟨by rfl,?_⟩) ?_ ?_
                        rotate_left
                        ·intro w'
                         go_simp
                         with_reducible rfl
                        rotate_left
                        ·simp only [Act.put,List.setIfInBounds_toArray,List.set_cons_zero,List.set_cons_succ,i64_w,i32_w]
                         rfl
                        refine pure_ (i := 3) (N := some 113) (v := ?_) (a' := ?_) #[true,true,true,true,false,false,false,false,false,false,false,false,false,false,false,false] rfl rfl (any_of HT_.out (by kernel_rfl)) (fun _ _ _ h => h) (Or.inl ⟨by rfl,?_⟩) ?_ ?_
                        rotate_left
                        ·intro w'
                         go_simp
                         with_reducible rfl
                        rotate_left
                        ·simp only [Act.put,List.setIfInBounds_toArray,List.set_cons_zero,List.set_cons_succ,i64_w,i32_w]
                         rfl
                        refine pure_ (i := 5) (N := some 115) (v := ?_) (a' := ?_) #[true,true,true,true,false,true,false,false,false,false,false,false,false,false,false,false] rfl rfl (any_of HT_.out (by kernel_rfl)) (fun _ _ _ h => h) (Or.inl ⟨by rfl,?_⟩) ?_ ?_
                        rotate_left
                        ·intro w'
                         go_simp
                         with_reducible rfl
                        rotate_left
                        ·simp only [Act.put,List.setIfInBounds_toArray,List.set_cons_zero,List.set_cons_succ,i64_w,i32_w]
                         rfl
                        refine pure_ (i := 6) (N := some 116) (v := ?_) (a' := ?_) #[true,true,true,true,false,true,true,false,false,false,false,false,false,false,false,false] rfl rfl (any_of HT_.out (by kernel_rfl)) (fun _ _ _ h => h) (Or.inl ⟨by rfl,?_⟩) ?_ ?_
                        rotate_left
                        ·intro w'
                         go_simp
                         with_reducible rfl
                        rotate_left
                        ·simp only [Act.put,List.setIfInBounds_toArray,List.set_cons_zero,List.set_cons_succ,i64_w,i32_w]
                         rfl
                        refine pure_ (i := 7) (N := some 117) (v := ?_) (a' := ?_) #[true,true,true,true,false,true,true,true,false,false,false,false,false,false,false,false] rfl rfl (any_of HT_.out (by kernel_rfl)) (fun _ _ _ h => h) (Or.inl ⟨by rfl,?_⟩) ?_ ?_
                        rotate_left
                        ·intro w'
                         go_simp
                         with_reducible rfl
                        rotate_left
                        ·simp only [Act.put,List.setIfInBounds_toArray,List.set_cons_zero,List.set_cons_succ,i64_w,i32_w]
                         rfl
                        refine pure_ (i := 8) (N := some 118) (v := ?_) (a' := ?_) #[true,true,true,true,false,true,true,true,true,false,false,false,false,false,false,false] rfl rfl (any_of HT_.out (by kernel_rfl)) (fun _ _ _ h => h) (Or.inl ⟨by rfl,?_⟩) ?_ ?_
                        rotate_left
                        ·intro w'
                         go_simp
                         with_reducible rfl
                        rotate_left
                        ·simp only [Act.put,List.setIfInBounds_toArray,List.set_cons_zero,List.set_cons_succ,i64_w,i32_w]
                         rfl
                        refine pure_ (i := 12) (N := some 122) (v := ?_) (a' := ?_) #[true,true,true,true,false,true,true,true,true,false,false,false,true,false,false,false] rfl rfl (any_of HT_.out (by kernel_rfl)) (fun _ _ _ h => h) (Or.inl ⟨by rfl,?_⟩) ?_ ?_
                        rotate_left
                        ·intro w'
                         go_simp
                         with_reducible rfl
                        rotate_left
                        ·simp only [Act.put,List.setIfInBounds_toArray,List.set_cons_zero,List.set_cons_succ,i64_w,i32_w]
                         rfl
                        refine take_ (i := 4) (N := some 114) (v := ?_) (a' := ?_) #[true,true,true,true,true,true,true,true,true,false,false,false,true,false,false,false] rfl rfl (take_ofW HT_.out HW_.out (by kernel_rfl)) (fun _ _ _ h => h) (Or.inl ⟨by rfl,?_⟩) hHeld ?_ ?_
                        rotate_left
                        ·rintro w' ⟨s0,s1,s2⟩
                         go_simp
                         with_reducible rfl
                        rotate_left
                        ·simp only [Act.put,List.setIfInBounds_toArray,List.set_cons_zero,List.set_cons_succ,i64_w,i32_w]
                         rfl
                        refine take_ (i := 9) (N := some 119) (v := ?_) (a' := ?_) #[true,true,true,true,true,true,true,true,true,true,false,false,true,false,false,false] rfl rfl (take_ofW HT_.out HW_.out (by kernel_rfl)) (fun _ _ _ h => h) (Or.inl ⟨by rfl,?_⟩) hHeld ?_ ?_
                        rotate_left
                        ·rintro w' ⟨s0,s1,s2⟩
                         go_simp
                         with_reducible rfl
                        rotate_left
                        ·simp only [Act.put,List.setIfInBounds_toArray,List.set_cons_zero,List.set_cons_succ,i64_w,i32_w]
                         rfl
                        refine pure_ (i := 10) (N := some 120) (v := ?_) (a' := ?_) #[true,true,true,true,true,true,true,true,true,true,true,false,true,false,false,false] rfl rfl (any_of HT_.out (by kernel_rfl)) (fun _ _ _ h => h) (Or.inl ⟨by rfl,?_⟩) ?_ ?_
                        rotate_left
                        ·intro w'
                         go_simp
                         with_reducible rfl
                        rotate_left
                        ·simp only [Act.put,List.setIfInBounds_toArray,List.set_cons_zero,List.set_cons_succ,i64_w,i32_w]
                         rfl
                        refine take_ (i := 11) (N := some 121) (v := ?_) (a' := ?_) #[true,true,true,true,true,true,true,true,true,true,true,true,true,false,false,false] rfl rfl (take_ofW HT_.out HW_.out (by kernel_rfl)) (fun _ _ _ h => h) (Or.inl ⟨by rfl,?_⟩) hHeld ?_ ?_
                        rotate_left
                        ·rintro w' ⟨s0,s1,s2⟩
                         go_simp
                         with_reducible rfl
                        rotate_left
                        ·simp only [Act.put,List.setIfInBounds_toArray,List.set_cons_zero,List.set_cons_succ,i64_w,i32_w]
                         rfl
                        refine pure_ (i := 13) (N := some 123) (v := ?_) (a' := ?_) #[true,true,true,true,true,true,true,true,true,true,true,true,true,true,false,false] rfl rfl (any_of HT_.out (by kernel_rfl)) (fun _ _ _ h => h) (Or.inl ⟨by rfl,?_⟩) ?_ ?_
                        rotate_left
                        ·intro w'
                         go_simp
                         with_reducible rfl
                        rotate_left
                        ·simp only [Act.put,List.setIfInBounds_toArray,List.set_cons_zero,List.set_cons_succ,i64_w,i32_w]
                         rfl
                        refine pure_ (i := 14) (N := some 124) (v := ?_) (a' := ?_) #[true,true,true,true,true,true,true,true,true,true,true,true,true,true,true,false] rfl rfl (any_of HT_.out (by kernel_rfl)) (fun _ _ _ h => h) (Or.inl ⟨by rfl,?_⟩) ?_ ?_
                        rotate_left
                        ·intro w'
                         go_simp
                         with_reducible rfl
                        rotate_left
                        ·simp only [Act.put,List.setIfInBounds_toArray,List.set_cons_zero,List.set_cons_succ,i64_w,i32_w]
                         rfl
                        refine last_ (i := 15) (N := none) #[true,true,true,true,true,true,true,true,true,true,true,true,true,true,true,true] rfl rfl (one_of HT_.out (by kernel_rfl)) (by decide) (fun K hK => ?_)
                        refine skip_ (w1 := ?_) (by rfl) rfl ?_ ?_
                        rotate_left
                        ·go_simp
                         rfl
                        refine hK.out _ _ ?_
                        clear hK K
                        refine done_ (done_of HT_.out (by kernel_rfl)) ?_
                        try go_wp2
                        go_roundg k6
                        case measure => have := HJ6.out;have := HJ18.out;have := HK3.out;have := HJ36.out;have := HK5.out;have := HK6.out;omega
                        case rel => exact ⟨(y378),(wrap64 (x19_6 + 1)),(by first | rfl | (simp;done) | (simp [*];done)),H',⟨by have := HJ6.out;have := HJ18.out;have := HK3.out;have := HJ36.out;have := HK5.out;have := HK6.out;omega⟩,⟨by (with_reducible repeat (first | apply Kd.R_alloc | apply Kd.R_drewN | apply Kd.R_drew));exact Kd.R_mono (Kd.R_far (p := ⟨go52,((rd t369 x19_6) : Int).toNat,none⟩) (Kd.R_types HO_11.out GG52.out (by decide)) (fun _ hk => hk.2) (.int .i64 (wrap64 ((rd x14_6 (rd t369 x19_6)) - x17_5)))) (fun _ hk => trivial)⟩,⟨by (with_reducible repeat (first | apply Kd.R_alloc | apply Kd.R_drewN | apply Kd.R_drew));exact Kd.R_mono (Kd.R_far (p := ⟨go52,((rd t369 x19_6) : Int).toNat,none⟩) (Kd.R_mono HO_12.out (fun k_ hk => (⟨hk,fun e_ => hk.1 (by rw [e_];rfl)⟩ : _ ∧ k_ ≠ go52))) (fun _ hk => hk.2) (.int .i64 (wrap64 ((rd x14_6 (rd t369 x19_6)) - x17_5)))) (fun _ hk => ⟨hk.1.1,hk.1.2⟩)⟩,⟨by (with_reducible repeat (first | apply Kd.R_alloc | apply Kd.R_drewN | apply Kd.R_drew));exact HQ55.out⟩,⟨by (with_reducible repeat (first | apply Kd.R_alloc | apply Kd.R_drewN | apply Kd.R_drew));exact Kd.R_mono (Kd.R_far (p := ⟨go52,((rd t369 x19_6) : Int).toNat,none⟩) (Kd.R_mono HO_16.out (fun k_ hk => (⟨hk,fun e_ => hk.2 (by rw [e_];rfl)⟩ : _ ∧ k_ ≠ go52))) (fun _ hk => hk.2) (.int .i64 (wrap64 ((rd x14_6 (rd t369 x19_6)) - x17_5)))) (fun _ hk => ⟨hk.1.1,hk.1.2⟩)⟩,⟨by (with_reducible repeat (first | refine blk_drewN ?_ _ | refine blk_drew ?_ | refine blk_alloc ?_ _));refine blk_far ?_ (by have h_ := Kd.R_ne HO_14.out BK343.out (by decide);intro e_;exact h_ (by rw [e_];rfl)) _;(with_reducible repeat (first | refine blk_drewN ?_ _ | refine blk_drew ?_ | refine blk_alloc ?_ _));exact BK343.out⟩,⟨by repeat (first | (with_reducible first | exact HB.out | apply below_alloc | apply pw_below_drewN | apply below_drew1 | refine below_set ?_ GB52.out | refine below_set ?_ GE343.out) | exact HB.out)⟩⟩
                       ·rw [if_neg c51] at H
                        exact absurd H (by simp)
                      ·rw [if_neg c50] at H
                       exact absurd H (by simp)
                     ·rw [if_neg c49] at H
                      exact absurd H (by simp)
                    ·rw [if_neg c48] at H
                     have c48b0 : decide (x19_6 < (t369.length : Int)) = false := decide_eq_false c48
                     clear c48
                     by_cases c56 : 0 ≤ x15_3
                     ·rw [if_pos c56] at H
                      have c56b0 : decide (0 ≤ x15_3) = true := decide_eq_true c56
                      clear c56
                      by_cases c57 : x15_3 < (t346.length : Int)
                      ·rw [if_pos c57] at H
                       have c57b0 : decide (x15_3 < (t346.length : Int)) = true := decide_eq_true c57
                       clear c57
                       by_cases c58 : ((rd_T47 t346 x15_3).f1) = x17_5
                       ·rw [if_pos c58] at H
                        have c58b0 : (((rd_T47 t346 x15_3).f1) == x17_5) = true := beq_iff_eq.mpr c58
                        have c58b1 : (((rd_T47 t346 x15_3).f1) != x17_5) = false := bne_eq_false_iff_eq.mpr c58
                        clear c58
                        have H' := Aside0.mk H
                        clear H
                        obtain ⟨Ao59,co59,eo59⟩ := Kd.R_slice HO_11.out
                        subst eo59
                        have p379 : 0 ≤ (x15_3 : Int) := of_decide_eq_true (by first | (with_reducible assumption) | assumption)
                        have q379 : x15_3 < (t346.length : Int) := of_decide_eq_true (by first | (with_reducible assumption) | assumption)
                        obtain ⟨ad379,e379,hx379_0,hx379_1⟩ := at_T47 (Kd.R_reads' HO_11.out).2.2 x15_3 p379 q379
                        cases e379
                        replace p379 := eq_true p379
                        replace q379 := eq_true q379
                        go_wp2
                        go_roundg k6
                        case measure => have := HJ6.out;have := HJ18.out;have := HK3.out;have := HJ36.out;have := HK5.out;have := HK6.out;omega
                        case rel => exact ⟨(x14_6),(wrap64 (x15_3 + 1)),(by first | rfl | (simp;done) | (simp [*];done)),H',⟨by have := HJ6.out;have := HJ18.out;have := HK3.out;have := HJ36.out;have := HK5.out;have := HK6.out;omega⟩,⟨by (with_reducible repeat (first | apply Kd.R_alloc | apply Kd.R_drewN | apply Kd.R_drew));exact HO_11.out⟩,⟨by (with_reducible repeat (first | apply Kd.R_alloc | apply Kd.R_drewN | apply Kd.R_drew));exact Kd.R_mono HO_12.out (fun _ hk => hk.1)⟩,⟨by (with_reducible repeat (first | apply Kd.R_alloc | apply Kd.R_drewN | apply Kd.R_drew));exact Kd.R_mono HO_14.out (fun _ hk => hk.1)⟩,⟨by (with_reducible repeat (first | refine blk_drewN ?_ _ | refine blk_drew ?_ | refine blk_alloc ?_ _));exact BK343.out⟩,⟨by repeat (first | (with_reducible first | exact HB.out | apply below_alloc | apply pw_below_drewN | apply below_drew1 | refine below_set ?_ GE343.out) | exact HB.out)⟩⟩
                       ·rw [if_neg c58] at H
                        exact absurd H (by simp)
                      ·rw [if_neg c57] at H
                       exact absurd H (by simp)
                     ·rw [if_neg c56] at H
                      exact absurd H (by simp)
            ·rw [if_neg c34] at H
             exact absurd H (by simp)
           ·rw [if_neg c33] at H
            have c33b0 : decide (x15_3 < (l1.length : Int)) = false := decide_eq_false c33
            clear c33
            by_cases c60 : t344 = true
            ·subst c60
             have H1 : ((bourneref37_SameInts.f k3 t349 x14_3).bind fun t367 => (some t367)) = some r := by rw [if_pos rfl] at H;exact H
             clear H
             have H := H1
             clear H1
             replace H := Option.bind_eq_some_iff.mp H
             obtain ⟨t367,A610,H⟩ := H
             replace H : (some t367) = some r := H
             have A61 := Aside0.mk A610
             clear A610
             obtain rfl := Option.some.inj H
             obtain ⟨Ao62,co62,eo62⟩ := Kd.R_slice HO_12.out
             subst eo62
             obtain ⟨Ao63,co63,eo63⟩ := Kd.R_slice HO_14.out
             subst eo63
             go_wp2_with (first | (go_at_call 12;(with_reducible refine (bourneref37_SameInts.calls k3 _ _ t349 _ _ x14_3 t367 _ ?side1 ?side2 ?side3 ?side4 A61.out).mono ?_);(case side1 => repeat (first | exact (Kd.R_reads' HO_12.out).2.2 | (with_reducible refine Kd.C_alloc ?_ _) | (with_reducible refine Kd.C_drewN ?_ _) | (with_reducible refine Kd.C_drew ?_)));(case side2 => exact (Kd.R_reads' HO_12.out).2.1);(case side3 => repeat (first | exact (Kd.R_reads' HO_14.out).2.2 | (with_reducible refine Kd.C_alloc ?_ _) | (with_reducible refine Kd.C_drewN ?_ _) | (with_reducible refine Kd.C_drew ?_)));(case side4 => exact (Kd.R_reads' HO_14.out).2.1);rintro e w' ⟨rfl,⟨nd,rfl⟩⟩))
             go_ret
             exact ⟨by first | rfl | (simp [errW_none,errW_some] <;> rfl) | (simp [*,errW_none,errW_some] <;> rfl),by repeat (first | (with_reducible first | exact HB.out | apply below_alloc | apply pw_below_drewN | apply below_drew1 | refine below_set ?_ GE343.out) | exact HB.out)⟩
            ·replace c60 := Bool.eq_false_iff.mpr c60
             subst c60
             have H1 : (none) = some r := by rw [if_neg (show ¬ (false = true) by decide)] at H;exact H
             clear H
             have H := H1
             clear H1
             exact absurd H (by simp)
     ·rw [if_neg c17] at H
      exact absurd H (by simp)
    ·rw [if_neg c16] at H
     exact absurd H (by simp)

end Go.Proofs.Ythmbleephognnaa.Q
