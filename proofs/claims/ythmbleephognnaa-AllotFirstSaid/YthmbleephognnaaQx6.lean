-- written by xprint.py (this session's program over the kit's print program)
import Derived.Test.YthmbleephognnaaQx0
import Derived.Test.YthmbleephognnaaQx2
import Derived.Test.YthmbleephognnaaQx4
import Derived.Test.YthmbleephognnaaQx5
namespace Go.Proofs.Ythmbleephognnaa.Q
open Go.RowKit Go.Proofs.YthmbleephognnaaW.PrintWords Go.Proofs.YthmbleephognnaaW.PrintLast Go.Proofs.YthmbleephognnaaW.PrintMore
attribute [local go_sem] max2_int min2_int max_two min_two max_three min_three max_four min_four -- for this text's walks alone
set_option linter.unusedVariables false
set_option linter.unusedSimpArgs false

/-! ### allot_Back: function 15 -/
mutual
def allot_Back.l0 : Nat → List (S45) → List Int → List (S47) → Int → Int → ByteArray → List ByteArray → Int → List (S58) → List (S98) → List (S100) → List (S102) → List (S104) → List (S106) → List Int → Int → Option (List Int)
 | 0,_,_,_,_,_,_,_,_,_,_,_,_,_,_,_,_ => none
 | k + 1,x1,x7,x18,x19,x20,x152000,x152001,x152002,x152003,x152004,x152005,x152006,x152007,x152008,x152009,x152010 => if x20 < x19 then (if 0 ≤ x20 then (if x20 < (x18.length : Int) then ((slices_IndexFunc.f x1 ((rd_T47 x18 x20).f0)).bind fun t157 => (if t157 < 0 then (allot_Back.j1 k x1 x7 t157 x18 x19 x20 true x152000 x152001 x152002 x152003 x152004 x152005 x152006 x152007 x152008 x152009 x152010 ((rd_T47 x18 x20).f0) ((rd_T47 x18 x20).f1)) else (if 0 ≤ t157 then (if t157 < (x1.length : Int) then ((allot_is.f x152000 x152001 x152002 x152003 x152004 x152005 x152006 x152007 x152008 x152009 x152010 ((rd_T45 x1 t157).f8)).bind fun t159 => (allot_Back.j1 k x1 x7 t157 x18 x19 x20 (!t159) x152000 x152001 x152002 x152003 x152004 x152005 x152006 x152007 x152008 x152009 x152010 ((rd_T47 x18 x20).f0) ((rd_T47 x18 x20).f1))) else (none)) else (none)))) else (none)) else (none)) else (some x7)
def allot_Back.j1 : Nat → List (S45) → List Int → Int → List (S47) → Int → Int → Bool → ByteArray → List ByteArray → Int → List (S58) → List (S98) → List (S100) → List (S102) → List (S104) → List (S106) → List Int → Int → Int → Int → Option (List Int)
 | 0,_,_,_,_,_,_,_,_,_,_,_,_,_,_,_,_,_,_,_,_ => none
 | k + 1,x1,x7,x10,x18,x19,x20,x38,x152000,x152001,x152002,x152003,x152004,x152005,x152006,x152007,x152008,x152009,x152010,x157000,x157001 => if x38 = true then (allot_Back.l0 k x1 x7 x18 x19 (wrap64 (x20 + 1)) x152000 x152001 x152002 x152003 x152004 x152005 x152006 x152007 x152008 x152009 x152010) else ((exact_Clamp.f x157001 0 1125899906842624).bind fun t160 => (if 0 ≤ x10 then (if x10 < (x1.length : Int) then ((exact_Clamp.f ((rd_T45 x1 x10).f7) 0 1000).bind fun t162 => ((exact_Scale.f k t160 t162 1000).bind fun bt163 => (if 0 ≤ ((rd_T45 x1 x10).f8) then (if ((rd_T45 x1 x10).f8) < (x7.length : Int) then ((exact_Add.f (rd x7 ((rd_T45 x1 x10).f8)) bt163.1).bind fun t169 => (allot_Back.l0 k x1 (x7.set (((rd_T45 x1 x10).f8) : Int).toNat t169) x18 x19 (wrap64 (x20 + 1)) x152000 x152001 x152002 x152003 x152004 x152005 x152006 x152007 x152008 x152009 x152010)) else (none)) else (none)))) else (none)) else (none)))
end
def allot_Back.f (k : Nat) (a0_0 : ByteArray) (l0_1 : List ByteArray) (a0_2 : Int) (l0_3 : List (S58)) (l0_4 : List (S98)) (l0_5 : List (S100)) (l0_6 : List (S102)) (l0_7 : List (S104)) (l0_8 : List (S106)) (l0_9 : List Int) (a0_10 : Int) (l1 : List (S45)) (l2 : List (S47)) : Option (List Int) := if 0 ≤ (l0_3.length : Int) then (if ((l0_3.length : Int) : Int).toNat ≤ 35184372088832 then (allot_Back.l0 k l1 (List.replicate ((l0_3.length : Int) : Int).toNat 0) l2 (l2.length : Int) 0 a0_0 l0_1 a0_2 l0_3 l0_4 l0_5 l0_6 l0_7 l0_8 l0_9 a0_10) else (none)) else (none)
theorem allot_Back.mono_l : ∀ k,(∀ y0 y1 y2 y3 y4 y5 y6 y7 y8 y9 y10 y11 y12 y13 y14 y15,LeO (allot_Back.l0 k y0 y1 y2 y3 y4 y5 y6 y7 y8 y9 y10 y11 y12 y13 y14 y15) (allot_Back.l0 (k + 1) y0 y1 y2 y3 y4 y5 y6 y7 y8 y9 y10 y11 y12 y13 y14 y15)) ∧ (∀ y0 y1 y2 y3 y4 y5 y6 y7 y8 y9 y10 y11 y12 y13 y14 y15 y16 y17 y18 y19,LeO (allot_Back.j1 k y0 y1 y2 y3 y4 y5 y6 y7 y8 y9 y10 y11 y12 y13 y14 y15 y16 y17 y18 y19) (allot_Back.j1 (k + 1) y0 y1 y2 y3 y4 y5 y6 y7 y8 y9 y10 y11 y12 y13 y14 y15 y16 y17 y18 y19))
 | 0 => ⟨fun _ _ _ _ _ _ _ _ _ _ _ _ _ _ _ _ r h => by simp [allot_Back.l0] at h,fun _ _ _ _ _ _ _ _ _ _ _ _ _ _ _ _ _ _ _ _ r h => by simp [allot_Back.j1] at h⟩
 | k + 1 => by
  obtain ⟨ih0,ih1⟩ := allot_Back.mono_l k
  refine ⟨?_,?_⟩
  ·intro y0 y1 y2 y3 y4 y5 y6 y7 y8 y9 y10 y11 y12 y13 y14 y15
   unfold allot_Back.l0
   repeat' first
   | (with_reducible exact ih0 _ _ _ _ _ _ _ _ _ _ _ _ _ _ _ _)
   | (with_reducible exact ih1 _ _ _ _ _ _ _ _ _ _ _ _ _ _ _ _ _ _ _ _)
   | (with_reducible exact exact_Scale.mono _ _ _ _)
   | (with_reducible exact LeO.refl _)
   | (with_reducible exact LeO.none _)
   | (with_reducible refine LeO.ite ?_ ?_)
   | (with_reducible refine LeO.bind ?_ (fun _ => ?_))
   | exact ih0 _ _ _ _ _ _ _ _ _ _ _ _ _ _ _ _
   | exact ih1 _ _ _ _ _ _ _ _ _ _ _ _ _ _ _ _ _ _ _ _
   | exact exact_Scale.mono _ _ _ _
   | exact LeO.none _
   | refine LeO.ite ?_ ?_
   | refine LeO.bind ?_ (fun _ => ?_)
  ·intro y0 y1 y2 y3 y4 y5 y6 y7 y8 y9 y10 y11 y12 y13 y14 y15 y16 y17 y18 y19
   unfold allot_Back.j1
   repeat' first
   | (with_reducible exact ih0 _ _ _ _ _ _ _ _ _ _ _ _ _ _ _ _)
   | (with_reducible exact ih1 _ _ _ _ _ _ _ _ _ _ _ _ _ _ _ _ _ _ _ _)
   | (with_reducible exact exact_Scale.mono _ _ _ _)
   | (with_reducible exact LeO.refl _)
   | (with_reducible exact LeO.none _)
   | (with_reducible refine LeO.ite ?_ ?_)
   | (with_reducible refine LeO.bind ?_ (fun _ => ?_))
   | exact ih0 _ _ _ _ _ _ _ _ _ _ _ _ _ _ _ _
   | exact ih1 _ _ _ _ _ _ _ _ _ _ _ _ _ _ _ _ _ _ _ _
   | exact exact_Scale.mono _ _ _ _
   | exact LeO.none _
   | refine LeO.ite ?_ ?_
   | refine LeO.bind ?_ (fun _ => ?_)
theorem allot_Back.mono : ∀ a0 a1 a2 a3 a4 a5 a6 a7 a8 a9 a10 a11 a12 k,LeO (allot_Back.f k a0 a1 a2 a3 a4 a5 a6 a7 a8 a9 a10 a11 a12) (allot_Back.f (k + 1) a0 a1 a2 a3 a4 a5 a6 a7 a8 a9 a10 a11 a12) := by
 intro a0 a1 a2 a3 a4 a5 a6 a7 a8 a9 a10 a11 a12 k
 obtain ⟨ih0,ih1⟩ := allot_Back.mono_l k
 unfold allot_Back.f
 repeat' first
   | (with_reducible exact ih0 _ _ _ _ _ _ _ _ _ _ _ _ _ _ _ _)
   | (with_reducible exact ih1 _ _ _ _ _ _ _ _ _ _ _ _ _ _ _ _ _ _ _ _)
   | (with_reducible exact exact_Scale.mono _ _ _ _)
   | (with_reducible exact LeO.refl _)
   | (with_reducible exact LeO.none _)
   | (with_reducible refine LeO.ite ?_ ?_)
   | (with_reducible refine LeO.bind ?_ (fun _ => ?_))
   | exact ih0 _ _ _ _ _ _ _ _ _ _ _ _ _ _ _ _
   | exact ih1 _ _ _ _ _ _ _ _ _ _ _ _ _ _ _ _ _ _ _ _
   | exact exact_Scale.mono _ _ _ _
   | exact LeO.none _
   | refine LeO.ite ?_ ?_
   | refine LeO.bind ?_ (fun _ => ?_)
def allot_Back.T6 : Bool × List (List Nat × List Nat) := (true,[([],[]),([0],[0]),([1],[1]),([2],[2]),([2],[2]),([2],[2]),([4,5,2],[2,4,5]),([6,2],[2,6]),([7,2],[2,7]),([3,8,2,2],[2,3,8]),([9,2],[2,9]),([2,10],[2,10])])
def allot_Back.B6 : List Nat := [0,1,3,7,7,7,55,119,247,511,1023,2047]
theorem allot_Back.tab6 : rtab .any (opsOf Try.f15 6) = allot_Back.T6 := by kernel_rfl
theorem allot_Back.bits6 : waitsOk allot_Back.T6.2 allot_Back.B6 = true := by kernel_rfl
def allot_Back.T7 : Bool × List (List Nat × List Nat) := (true,[([],[]),([0],[0]),([1],[1]),([],[]),([],[]),([3,4],[3,4]),([5],[5]),([6],[6]),([7,2],[7]),([2,8,8],[2,8]),([9],[9]),([10],[10]),([10],[10]),([10],[10]),([11,9,0,1,2,3,4,5,6,7,8,9,10,11],[11]),([12,14,0,1,2,3,4,5,6,7,8,9,10,11,12,14],[12]),([13,15,0,1,2,3,4,5,6,7,8,9,10,11,12,13,14,15],[13])])
def allot_Back.B7 : List Nat := [0,1,3,0,0,24,56,120,255,511,1023,2047,2047,2047,4095,24575,65535]
theorem allot_Back.tab7 : rtab .any (opsOf Try.f15 7) = allot_Back.T7 := by kernel_rfl
theorem allot_Back.bits7 : waitsOk allot_Back.T7.2 allot_Back.B7 = true := by kernel_rfl
def allot_Back.T8 : Bool × List (List Nat × List Nat) := (true,[([],[]),([],[]),([],[]),([1,2],[1,2]),([3],[3]),([4],[4]),([],[]),([],[]),([],[]),([7,8],[7,8]),([9],[9]),([10],[10]),([6,11],[6,11]),([12],[12]),([],[]),([13,14],[13,14]),([0,5,0,1,2,3,4,5,6,7,8,9,10,11,12,13,14,15],[0,5]),([16,15,15,0,1,2,3,4,5,6,7,8,9,10,11,12,13,14,15],[15,16])])
def allot_Back.B8 : List Nat := [0,0,0,6,14,30,0,0,0,384,896,1920,4032,8128,0,32704,65535,131071]
theorem allot_Back.tab8 : rtab .any (opsOf Try.f15 8) = allot_Back.T8 := by kernel_rfl
theorem allot_Back.bits8 : waitsOk allot_Back.T8.2 allot_Back.B8 = true := by kernel_rfl
set_option maxHeartbeats 8000000 in
set_option maxRecDepth 100000 in
theorem allot_Back.calls (k : Nat) (a0_0 : ByteArray) (A0_1 : Option Addr) (c0_1 : Nat) (l0_1 : List ByteArray) (a0_2 : Int) (A0_3 : Option Addr) (c0_3 : Nat) (l0_3 : List (S58)) (A0_4 : Option Addr) (c0_4 : Nat) (l0_4 : List (S98)) (A0_5 : Option Addr) (c0_5 : Nat) (l0_5 : List (S100)) (A0_6 : Option Addr) (c0_6 : Nat) (l0_6 : List (S102)) (A0_7 : Option Addr) (c0_7 : Nat) (l0_7 : List (S104)) (A0_8 : Option Addr) (c0_8 : Nat) (l0_8 : List (S106)) (A0_9 : Option Addr) (c0_9 : Nat) (l0_9 : List Int) (a0_10 : Int) (A1 : Option Addr) (c1 : Nat) (l1 : List (S45)) (A2 : Option Addr) (c2 : Nat) (l2 : List (S47)) (r : List Int) (w : World) (hr0_1 : Kd.C Kd.string w A0_1 l0_1.length l0_1) (hc0_1 : l0_1.length ≤ c0_1) (hr0_3 : Kd.C k58 w A0_3 l0_3.length l0_3) (hc0_3 : l0_3.length ≤ c0_3) (hr0_4 : Kd.C k98 w A0_4 l0_4.length l0_4) (hc0_4 : l0_4.length ≤ c0_4) (hr0_5 : Kd.C k100 w A0_5 l0_5.length l0_5) (hc0_5 : l0_5.length ≤ c0_5) (hr0_6 : Kd.C k102 w A0_6 l0_6.length l0_6) (hc0_6 : l0_6.length ≤ c0_6) (hr0_7 : Kd.C k104 w A0_7 l0_7.length l0_7) (hc0_7 : l0_7.length ≤ c0_7) (hr0_8 : Kd.C k106 w A0_8 l0_8.length l0_8) (hc0_8 : l0_8.length ≤ c0_8) (hr0_9 : Kd.C (Kd.int .i64) w A0_9 l0_9.length l0_9) (hc0_9 : l0_9.length ≤ c0_9) (hr1 : Kd.C k45 w A1 l1.length l1) (hc1 : l1.length ≤ c1) (hr2 : Kd.C k47 w A2 l2.length l2) (hc2 : l2.length ≤ c2) (h : allot_Back.f k a0_0 l0_1 a0_2 l0_3 l0_4 l0_5 l0_6 l0_7 l0_8 l0_9 a0_10 l1 l2 = some r) :
  Calls Try.prog 15 #[.agg #[.string a0_0,.slice A0_1 l0_1.length c0_1,.int .i64 a0_2,.slice A0_3 l0_3.length c0_3,.slice A0_4 l0_4.length c0_4,.slice A0_5 l0_5.length c0_5,.slice A0_6 l0_6.length c0_6,.slice A0_7 l0_7.length c0_7,.slice A0_8 l0_8.length c0_8,.slice A0_9 l0_9.length c0_9,.int .i64 a0_10],.slice A1 l1.length c1,.slice A2 l2.length c2] w fun e w' => ∃ v0_ : Value,e = .returned (v0_) ∧ Kd.R (Kd.int .i64) 3 w' w.heap.size (fun _ => True) v0_ r ∧ Below w.heap.size w w' := by
 have hu31 := Try.underlying31
 have hu47 := Try.underlying47
 have HR0_1 := Aside0.mk hr0_1
 have HC0_1 := Aside0.mk hc0_1
 clear hr0_1 hc0_1
 have HR0_3 := Aside0.mk hr0_3
 have HC0_3 := Aside0.mk hc0_3
 clear hr0_3 hc0_3
 have HR0_4 := Aside0.mk hr0_4
 have HC0_4 := Aside0.mk hc0_4
 clear hr0_4 hc0_4
 have HR0_5 := Aside0.mk hr0_5
 have HC0_5 := Aside0.mk hc0_5
 clear hr0_5 hc0_5
 have HR0_6 := Aside0.mk hr0_6
 have HC0_6 := Aside0.mk hc0_6
 clear hr0_6 hc0_6
 have HR0_7 := Aside0.mk hr0_7
 have HC0_7 := Aside0.mk hc0_7
 clear hr0_7 hc0_7
 have HR0_8 := Aside0.mk hr0_8
 have HC0_8 := Aside0.mk hc0_8
 clear hr0_8 hc0_8
 have HR0_9 := Aside0.mk hr0_9
 have HC0_9 := Aside0.mk hc0_9
 clear hr0_9 hc0_9
 have HR1 := Aside0.mk hr1
 have HC1 := Aside0.mk hc1
 clear hr1 hc1
 have HR2 := Aside0.mk hr2
 have HC2 := Aside0.mk hc2
 clear hr2 hc2
 have HB := Aside0.mk (Below.refl w.heap.size w)
 have H : (if 0 ≤ (l0_3.length : Int) then (if ((l0_3.length : Int) : Int).toNat ≤ 35184372088832 then (allot_Back.l0 k l1 (List.replicate ((l0_3.length : Int) : Int).toNat 0) l2 (l2.length : Int) 0 a0_0 l0_1 a0_2 l0_3 l0_4 l0_5 l0_6 l0_7 l0_8 l0_9 a0_10) else (none)) else (none)) = some r := h
 clear h
 by_cases c4 : 0 ≤ (l0_3.length : Int)
 ·rw [if_pos c4] at H
  have c4b0 := eq_true c4
  have c4b1 : decide (0 ≤ (l0_3.length : Int)) = true := decide_eq_true c4
  clear c4
  by_cases c5 : ((l0_3.length : Int) : Int).toNat ≤ 35184372088832
  ·rw [if_pos c5] at H
   have c5b0 := eq_true c5
   have c5b1 : decide (((l0_3.length : Int) : Int).toNat ≤ 35184372088832) = true := decide_eq_true c5
   clear c5
   obtain ⟨y152,hy152⟩ : ∃ y_ : List Int,y_ = (List.replicate ((l0_3.length : Int) : Int).toNat 0) := ⟨_,rfl⟩
   replace H : (allot_Back.l0 k l1 y152 l2 (l2.length : Int) 0 a0_0 l0_1 a0_2 l0_3 l0_4 l0_5 l0_6 l0_7 l0_8 l0_9 a0_10) = some r := by first | (rw [hy152];with_reducible exact H) | (have H2_ := (Option.bind_some _ _).symm.trans H;rw [hy152];with_reducible exact H2_) | (have H2_ := (Option.bind_some _ _).symm.trans H;with_reducible exact H2_) | with_reducible exact H | (rw [hy152];exact H) | exact H
   have Ny152 := Aside0.mk hy152
   clear hy152
   have H' := Aside0.mk H
   clear H
   go_enter Try.func15,Try.ntmps15
   go_wp2_with (first | ((with_reducible refine gate_dst (N := 3) rfl ?_);refine box_event ?hg (N := 3) ?hd (cs := #[.string a0_0,.slice A0_1 l0_1.length c0_1,.int .i64 a0_2,.slice A0_3 l0_3.length c0_3,.slice A0_4 l0_4.length c0_4,.slice A0_5 l0_5.length c0_5,.slice A0_6 l0_6.length c0_6,.slice A0_7 l0_7.length c0_7,.slice A0_8 l0_8.length c0_8,.slice A0_9 l0_9.length c0_9,.int .i64 a0_10]) (t := 31) ?hr ?_;(case hd => rfl);(case hg => rfl);(case hr => first | (go_simp;done) | (go_simp;rfl));intro gb151 hg w6 hbox hb;have n0_ := Aside0.mk (below_step (by repeat (first | (with_reducible first | exact HB.out | apply below_alloc | apply pw_below_drewN | apply below_drew1) | exact HB.out)) hb);have n1_ := Aside0.mk (hbox);have n2_ := Aside0.mk ((by rw [hg];exact (below_size (by repeat (first | (with_reducible first | exact HB.out | apply below_alloc | apply pw_below_drewN | apply below_drew1) | exact HB.out))) : w.heap.size ≤ gb151));have n3_ := Aside0.mk ((by rw [hg];exact (below_size (by repeat (first | (with_reducible first | exact HB.out | apply below_alloc | apply pw_below_drewN | apply below_drew1) | exact HB.out))) : w.heap.size ≤ gb151));clear HB;have HB := n0_;have BK151 := n1_;have GW151 := n2_;have GE151 := n3_;clear n0_ n1_ n2_ n3_;clear hb hbox hg;have hcz7_0 : w6.cell? ⟨gb151,0,none⟩ = some (.string a0_0) := (blk_cell BK151.out 0).trans rfl;have hcz7_1 : w6.cell? ⟨gb151,1,none⟩ = some (.slice A0_1 l0_1.length c0_1) := (blk_cell BK151.out 1).trans rfl;have hcz7_2 : w6.cell? ⟨gb151,2,none⟩ = some (.int .i64 a0_2) := (blk_cell BK151.out 2).trans rfl;have hcz7_3 : w6.cell? ⟨gb151,3,none⟩ = some (.slice A0_3 l0_3.length c0_3) := (blk_cell BK151.out 3).trans rfl;have hcz7_4 : w6.cell? ⟨gb151,4,none⟩ = some (.slice A0_4 l0_4.length c0_4) := (blk_cell BK151.out 4).trans rfl;have hcz7_5 : w6.cell? ⟨gb151,5,none⟩ = some (.slice A0_5 l0_5.length c0_5) := (blk_cell BK151.out 5).trans rfl;have hcz7_6 : w6.cell? ⟨gb151,6,none⟩ = some (.slice A0_6 l0_6.length c0_6) := (blk_cell BK151.out 6).trans rfl;have hcz7_7 : w6.cell? ⟨gb151,7,none⟩ = some (.slice A0_7 l0_7.length c0_7) := (blk_cell BK151.out 7).trans rfl;have hcz7_8 : w6.cell? ⟨gb151,8,none⟩ = some (.slice A0_8 l0_8.length c0_8) := (blk_cell BK151.out 8).trans rfl;have hcz7_9 : w6.cell? ⟨gb151,9,none⟩ = some (.slice A0_9 l0_9.length c0_9) := (blk_cell BK151.out 9).trans rfl;have hcz7_10 : w6.cell? ⟨gb151,10,none⟩ = some (.int .i64 a0_10) := (blk_cell BK151.out 10).trans rfl;have hfz7_0 := blk_frozen BK151.out 0;have hfz7_1 := blk_frozen BK151.out 1;have hfz7_2 := blk_frozen BK151.out 2;have hfz7_3 := blk_frozen BK151.out 3;have hfz7_4 := blk_frozen BK151.out 4;have hfz7_5 := blk_frozen BK151.out 5;have hfz7_6 := blk_frozen BK151.out 6;have hfz7_7 := blk_frozen BK151.out 7;have hfz7_8 := blk_frozen BK151.out 8;have hfz7_9 := blk_frozen BK151.out 9;have hfz7_10 := blk_frozen BK151.out 10) | ((with_reducible refine gate_dst (N := 17) rfl ?_);refine Kd.R_make (Kd.int .i64) _ 3 rfl (N := 17) rfl 29 _ _ rfl (l0_3.length : Int) rfl rfl Try.underlying29 (.int .i64 0) 8 info3 rfl (by decide) (by omega) 0 (ok := fun _ => True) (okp := fun _ => True) rfl (fun _ hk => hk) trivial (of_decide_eq_true (by first | (with_reducible assumption) | assumption)) (Nat.le_trans (Nat.mul_le_mul_right _ (of_decide_eq_true (by first | (with_reducible assumption) | assumption) : (l0_3.length : Int).toNat ≤ 35184372088832)) (by omega)) (Below.refl _ _) (Nat.le_refl _) ?_;intro v153 w8 ho9 hb hg_ hnew_;clear hg_ hnew_;(first | rw [← Ny152.out] at ho9 | (simp only [Int.reduceToNat] at ho9;rw [← Ny152.out] at ho9));have n0_ := Aside0.mk (Kd.R_lower ho9 (below_size (by repeat (first | (with_reducible first | exact HB.out | apply below_alloc | apply pw_below_drewN | apply below_drew1 | refine below_set ?_ GE151.out) | exact HB.out))));have n1_ := Aside0.mk (blk_below (g := gb151) (o := .cells #[.string a0_0,.slice A0_1 l0_1.length c0_1,.int .i64 a0_2,.slice A0_3 l0_3.length c0_3,.slice A0_4 l0_4.length c0_4,.slice A0_5 l0_5.length c0_5,.slice A0_6 l0_6.length c0_6,.slice A0_7 l0_7.length c0_7,.slice A0_8 l0_8.length c0_8,.slice A0_9 l0_9.length c0_9,.int .i64 a0_10] 31 (0,0)) (by (with_reducible repeat (first | refine blk_drewN ?_ _ | refine blk_drew ?_ | refine blk_alloc ?_ _));exact BK151.out) hb);have n2_ := Aside0.mk (below_step (by repeat (first | (with_reducible first | exact HB.out | apply below_alloc | apply pw_below_drewN | apply below_drew1 | refine below_set ?_ GE151.out) | exact HB.out)) hb);clear BK151;clear HB;have HO154 := n0_;have BK151 := n1_;have HB := n2_;clear n0_ n1_ n2_;clear hb ho9))
   go_loopg [20] k (fun kq v20 w' => ∃ (x7_1 : List Int) (x20_1 : Int),v20 = .int .i64 x20_1 ∧ Aside0 (allot_Back.l0 kq l1 x7_1 l2 (l2.length : Int) x20_1 a0_0 l0_1 a0_2 l0_3 l0_4 l0_5 l0_6 l0_7 l0_8 l0_9 a0_10 = some r) ∧ Aside0 (kq ≤ k) ∧ Aside0 (Kd.R (Kd.int .i64) 3 w' w.heap.size (fun _ => True) v153 x7_1) ∧ Aside0 (w'.heap[gb151]? = some (.cells #[.string a0_0,(.slice A0_1 l0_1.length c0_1),.int .i64 a0_2,(.slice A0_3 l0_3.length c0_3),(.slice A0_4 l0_4.length c0_4),(.slice A0_5 l0_5.length c0_5),(.slice A0_6 l0_6.length c0_6),(.slice A0_7 l0_7.length c0_7),(.slice A0_8 l0_8.length c0_8),(.slice A0_9 l0_9.length c0_9),.int .i64 a0_10] 31 (0,0))) ∧ Aside0 (Below w.heap.size w w'))
   case atStart => exact ⟨(y152),(0),(by first | rfl | (simp;done) | (simp [*];done)),H',⟨Nat.le_refl _⟩,⟨by (with_reducible repeat (first | apply Kd.R_alloc | apply Kd.R_drewN | apply Kd.R_drew));exact HO154.out⟩,⟨by (with_reducible repeat (first | refine blk_drewN ?_ _ | refine blk_drew ?_ | refine blk_alloc ?_ _));exact BK151.out⟩,⟨by repeat (first | (with_reducible first | exact HB.out | apply below_alloc | apply pw_below_drewN | apply below_drew1 | refine below_set ?_ GE151.out) | exact HB.out)⟩⟩
   case round =>
    clear H'
    try clear c1
    try clear c2
    try clear p2
    try clear c4
    try clear c4b0
    try clear c4b1
    try clear c5
    try clear c5b0
    try clear c5b1
    try clear hcz7_0
    try clear hcz7_1
    try clear hcz7_10
    try clear hcz7_2
    try clear hcz7_3
    try clear hcz7_4
    try clear hcz7_5
    try clear hcz7_6
    try clear hcz7_7
    try clear hcz7_8
    try clear hcz7_9
    try clear hfz7_0
    try clear hfz7_1
    try clear hfz7_10
    try clear hfz7_2
    try clear hfz7_3
    try clear hfz7_4
    try clear hfz7_5
    try clear hfz7_6
    try clear hfz7_7
    try clear hfz7_8
    try clear hfz7_9
    obtain ⟨x7_1,x20_1,rfl,HA,HK1,HO_7,BK151,HB⟩ := hrel
    cases gk with
    | zero => exact absurd HA.out (by simp [allot_Back.l0])
    | succ k1 =>
     have H := HA.out
     clear HA
     simp only [allot_Back.l0] at H
     by_cases c10 : x20_1 < (l2.length : Int)
     ·rw [if_pos c10] at H
      have c10b0 : decide (x20_1 < (l2.length : Int)) = true := decide_eq_true c10
      clear c10
      by_cases c11 : 0 ≤ x20_1
      ·rw [if_pos c11] at H
       have c11b0 : decide (0 ≤ x20_1) = true := decide_eq_true c11
       clear c11
       by_cases c12 : x20_1 < (l2.length : Int)
       ·rw [if_pos c12] at H
        have c12b0 : decide (x20_1 < (l2.length : Int)) = true := decide_eq_true c12
        clear c12
        replace H := Option.bind_eq_some_iff.mp H
        obtain ⟨t157,A130,H⟩ := H
        replace H : (if t157 < 0 then (allot_Back.j1 k1 l1 x7_1 t157 l2 (l2.length : Int) x20_1 true a0_0 l0_1 a0_2 l0_3 l0_4 l0_5 l0_6 l0_7 l0_8 l0_9 a0_10 ((rd_T47 l2 x20_1).f0) ((rd_T47 l2 x20_1).f1)) else (if 0 ≤ t157 then (if t157 < (l1.length : Int) then ((allot_is.f a0_0 l0_1 a0_2 l0_3 l0_4 l0_5 l0_6 l0_7 l0_8 l0_9 a0_10 ((rd_T45 l1 t157).f8)).bind fun t159 => (allot_Back.j1 k1 l1 x7_1 t157 l2 (l2.length : Int) x20_1 (!t159) a0_0 l0_1 a0_2 l0_3 l0_4 l0_5 l0_6 l0_7 l0_8 l0_9 a0_10 ((rd_T47 l2 x20_1).f0) ((rd_T47 l2 x20_1).f1))) else (none)) else (none))) = some r := H
        have A13 := Aside0.mk A130
        clear A130
        have HC14 := Aside0.mk H
        clear H
        have p155 : 0 ≤ (x20_1 : Int) := of_decide_eq_true (by first | (with_reducible assumption) | assumption)
        have q155 : x20_1 < (l2.length : Int) := of_decide_eq_true (by first | (with_reducible assumption) | assumption)
        obtain ⟨ad155,e155,hx155_0,hx155_1⟩ := at_T47 HR2.out x20_1 p155 q155
        cases e155
        replace hx155_0 := (HB.out.cell (World.block_lt_of_cell? w _ hx155_0)).trans hx155_0
        replace hx155_1 := (HB.out.cell (World.block_lt_of_cell? w _ hx155_1)).trans hx155_1
        replace p155 := eq_true p155
        replace q155 := eq_true q155
        go_upto_region 6 with (first | ((with_reducible refine gate_dst (N := 9) rfl ?_);refine box_event ?hg (N := 9) ?hd (cs := #[.int .i64 0,.int .i64 0]) (t := 47) ?hr ?_;(case hd => rfl);(case hg => rfl);(case hr => first | (go_simp;done) | (go_simp;rfl));intro gb156 hg w15 hbox hb;have n0_ := Aside0.mk (Kd.R_below (by (with_reducible repeat (first | apply Kd.R_alloc | apply Kd.R_drewN | apply Kd.R_drew));exact HO_7.out) hb);have n1_ := Aside0.mk (blk_below (g := gb151) (o := .cells #[.string a0_0,.slice A0_1 l0_1.length c0_1,.int .i64 a0_2,.slice A0_3 l0_3.length c0_3,.slice A0_4 l0_4.length c0_4,.slice A0_5 l0_5.length c0_5,.slice A0_6 l0_6.length c0_6,.slice A0_7 l0_7.length c0_7,.slice A0_8 l0_8.length c0_8,.slice A0_9 l0_9.length c0_9,.int .i64 a0_10] 31 (0,0)) (by (with_reducible repeat (first | refine blk_drewN ?_ _ | refine blk_drew ?_ | refine blk_alloc ?_ _));exact BK151.out) hb);have n2_ := Aside0.mk (below_step (by repeat (first | (with_reducible first | exact HB.out | apply below_alloc | apply pw_below_drewN | apply below_drew1 | refine below_set ?_ GE151.out) | exact HB.out)) hb);have n3_ := Aside0.mk (hbox);have n4_ := Aside0.mk ((by rw [hg];exact (below_size (by repeat (first | (with_reducible first | exact HB.out | apply below_alloc | apply pw_below_drewN | apply below_drew1 | refine below_set ?_ GE151.out) | exact HB.out))) : w.heap.size ≤ gb156));have n5_ := Aside0.mk ((by rw [hg];exact (below_size (by repeat (first | (with_reducible first | exact HB.out | apply below_alloc | apply pw_below_drewN | apply below_drew1 | refine below_set ?_ GE151.out) | exact HB.out))) : w.heap.size ≤ gb156));have n6_ := Aside0.mk ((by rw [hg];exact Nat.ne_of_lt (blk_lt (g := gb151) (o := .cells #[.string a0_0,.slice A0_1 l0_1.length c0_1,.int .i64 a0_2,.slice A0_3 l0_3.length c0_3,.slice A0_4 l0_4.length c0_4,.slice A0_5 l0_5.length c0_5,.slice A0_6 l0_6.length c0_6,.slice A0_7 l0_7.length c0_7,.slice A0_8 l0_8.length c0_8,.slice A0_9 l0_9.length c0_9,.int .i64 a0_10] 31 (0,0)) (by (with_reducible repeat (first | refine blk_drewN ?_ _ | refine blk_drew ?_ | refine blk_alloc ?_ _));exact BK151.out)) : gb151 ≠ gb156));have n7_ := Aside0.mk ((by rw [hg];exact Nat.ne_of_gt (blk_lt (g := gb151) (o := .cells #[.string a0_0,.slice A0_1 l0_1.length c0_1,.int .i64 a0_2,.slice A0_3 l0_3.length c0_3,.slice A0_4 l0_4.length c0_4,.slice A0_5 l0_5.length c0_5,.slice A0_6 l0_6.length c0_6,.slice A0_7 l0_7.length c0_7,.slice A0_8 l0_8.length c0_8,.slice A0_9 l0_9.length c0_9,.int .i64 a0_10] 31 (0,0)) (by (with_reducible repeat (first | refine blk_drewN ?_ _ | refine blk_drew ?_ | refine blk_alloc ?_ _));exact BK151.out)) : gb156 ≠ gb151));clear HO_7;clear BK151;clear HB;have HO_7 := n0_;have BK151 := n1_;have HB := n2_;have BK156 := n3_;have GW156 := n4_;have GE156 := n5_;have NB151_156 := n6_;have NB156_151 := n7_;clear n0_ n1_ n2_ n3_ n4_ n5_ n6_ n7_;clear hb hbox hg;have hnb16 := NB156_151.out;have hnc16 := NB151_156.out;have hcz17_0 : w15.cell? ⟨gb156,0,none⟩ = some (.int .i64 0) := (blk_cell BK156.out 0).trans rfl;have hcz17_1 : w15.cell? ⟨gb156,1,none⟩ = some (.int .i64 0) := (blk_cell BK156.out 1).trans rfl;have hfz17_0 := blk_frozen BK156.out 0;have hfz17_1 := blk_frozen BK156.out 1) | ((with_reducible refine gate_callee (f :=25) rfl ?_);refine goesL_ (some 26) rfl rfl Try.func25 (by kernel_rfl) rfl #[.slice A1 l1.length c1,.func (.func 26) #[] #[.pointer (some ⟨gb156,0,none⟩)]] rfl (by (try simp only [List.map_toArray,List.map_cons,List.map_nil]);first | done | rfl | (simp only [List.length_drop,List.length_take];rfl)) ?_;(with_reducible refine (slices_IndexFunc.calls _ _ l1 ((rd_T47 l2 x20_1).f0) t157 _ gb156 ((rd_T47 l2 x20_1).f1) ?side1 ?side2 ?side3 A13.out).mono ?_);(case side1 => exact Kd.C_below HR1.out (by repeat (first | (with_reducible first | exact HB.out | apply below_alloc | apply pw_below_drewN | apply below_drew1 | refine below_set ?_ GE151.out | refine below_set ?_ GE156.out) | exact HB.out)));(case side2 => exact HC1.out);(case side3 => exact (by (with_reducible repeat (first | refine blk_drewN ?_ _ | refine blk_drew ?_ | refine blk_alloc ?_ _));refine blk_put (cs := #[.int .i64 ((rd_T47 l2 x20_1).f0),.int .i64 0]) ?_ 1 _ rfl;(with_reducible repeat (first | refine blk_drewN ?_ _ | refine blk_drew ?_ | refine blk_alloc ?_ _));refine blk_put (cs := #[.int .i64 0,.int .i64 0]) ?_ 0 _ rfl;(with_reducible repeat (first | refine blk_drewN ?_ _ | refine blk_drew ?_ | refine blk_alloc ?_ _));exact BK156.out));rintro e w18 ⟨rfl,hb⟩;refine ⟨_,rfl,?_⟩;have n0_ := Aside0.mk (Kd.R_below (by (with_reducible repeat (first | apply Kd.R_alloc | apply Kd.R_drewN | apply Kd.R_drew));exact (Kd.R_mono (Kd.R_far (p := ⟨gb156,1,none⟩) (Kd.R_far (p := ⟨gb156,0,none⟩) (Kd.R_types HO_7.out BK156.out (by decide)) (fun _ hk => hk.2) (.int .i64 ((rd_T47 l2 x20_1).f0))) (fun _ hk => hk.2) (.int .i64 ((rd_T47 l2 x20_1).f1))) (fun _ h_ => h_.1))) hb);have n1_ := Aside0.mk (blk_below (g := gb151) (o := .cells #[.string a0_0,.slice A0_1 l0_1.length c0_1,.int .i64 a0_2,.slice A0_3 l0_3.length c0_3,.slice A0_4 l0_4.length c0_4,.slice A0_5 l0_5.length c0_5,.slice A0_6 l0_6.length c0_6,.slice A0_7 l0_7.length c0_7,.slice A0_8 l0_8.length c0_8,.slice A0_9 l0_9.length c0_9,.int .i64 a0_10] 31 (0,0)) (by (with_reducible repeat (first | refine blk_drewN ?_ _ | refine blk_drew ?_ | refine blk_alloc ?_ _));refine blk_far ?_ NB151_156.out _;(with_reducible repeat (first | refine blk_drewN ?_ _ | refine blk_drew ?_ | refine blk_alloc ?_ _));refine blk_far ?_ NB151_156.out _;(with_reducible repeat (first | refine blk_drewN ?_ _ | refine blk_drew ?_ | refine blk_alloc ?_ _));exact BK151.out) hb);have n2_ := Aside0.mk (blk_below (g := gb156) (o := .cells #[.int .i64 ((rd_T47 l2 x20_1).f0),.int .i64 ((rd_T47 l2 x20_1).f1)] 47 (0,0)) (by (with_reducible repeat (first | refine blk_drewN ?_ _ | refine blk_drew ?_ | refine blk_alloc ?_ _));refine blk_put (cs := #[.int .i64 ((rd_T47 l2 x20_1).f0),.int .i64 0]) ?_ 1 _ rfl;(with_reducible repeat (first | refine blk_drewN ?_ _ | refine blk_drew ?_ | refine blk_alloc ?_ _));refine blk_put (cs := #[.int .i64 0,.int .i64 0]) ?_ 0 _ rfl;(with_reducible repeat (first | refine blk_drewN ?_ _ | refine blk_drew ?_ | refine blk_alloc ?_ _));exact BK156.out) hb);have n3_ := Aside0.mk (below_step (by repeat (first | (with_reducible first | exact HB.out | apply below_alloc | apply pw_below_drewN | apply below_drew1 | refine below_set ?_ GE151.out | refine below_set ?_ GE156.out) | exact HB.out)) hb);clear HO_7;clear BK151;clear BK156;clear HB;have HO_7 := n0_;have BK151 := n1_;have BK156 := n2_;have HB := n3_;clear n0_ n1_ n2_ n3_;(try clear hb);(try clear hb2);(try clear hk);(try clear hi)))
        (try simp only [Act.put,List.setIfInBounds_toArray,List.set_cons_zero,List.set_cons_succ])
        go_cut [38] (fun v38 wc => ∃ (kq : Nat) (x38_13 : Bool),v38 = .bool x38_13 ∧ Aside0 (allot_Back.j1 kq l1 x7_1 t157 l2 (l2.length : Int) x20_1 x38_13 a0_0 l0_1 a0_2 l0_3 l0_4 l0_5 l0_6 l0_7 l0_8 l0_9 a0_10 ((rd_T47 l2 x20_1).f0) ((rd_T47 l2 x20_1).f1) = some r) ∧ Aside0 (kq ≤ k1) ∧ Aside0 (Kd.R (Kd.int .i64) 3 wc w.heap.size (fun _ => True) v153 x7_1) ∧ Aside0 (wc.heap[gb151]? = some (.cells #[.string a0_0,(.slice A0_1 l0_1.length c0_1),.int .i64 a0_2,(.slice A0_3 l0_3.length c0_3),(.slice A0_4 l0_4.length c0_4),(.slice A0_5 l0_5.length c0_5),(.slice A0_6 l0_6.length c0_6),(.slice A0_7 l0_7.length c0_7),(.slice A0_8 l0_8.length c0_8),(.slice A0_9 l0_9.length c0_9),.int .i64 a0_10] 31 (0,0))) ∧ Aside0 (wc.heap[gb156]? = some (.cells #[.int .i64 ((rd_T47 l2 x20_1).f0),.int .i64 ((rd_T47 l2 x20_1).f1)] 47 (0,0))) ∧ Aside0 (Below w.heap.size w wc))
        case first =>
         have H := HC14.out
         clear HC14
         by_cases c19 : t157 < 0
         ·rw [if_pos c19] at H
          have c19b0 : decide (t157 < 0) = true := decide_eq_true c19
          clear c19
          (first | rw [c19b0] | (simp only [i64_w,i32_w];rw [c19b0]) | skip)
          have H' := Aside0.mk H
          clear H
          try go_wp2
          (repeat (rw [drewN_self w18];generalize hq_ : World.drewN w18 _ = w18;have n0_ : Aside0 (Kd.R (Kd.int .i64) 3 w18 w.heap.size (fun _ => True) v153 x7_1) := ⟨by rw [← hq_];exact (by (with_reducible repeat (first | apply Kd.R_alloc | apply Kd.R_drewN | apply Kd.R_drew));exact HO_7.out)⟩;have n1_ : Aside0 (w18.heap[gb151]? = some (.cells #[.string a0_0,.slice A0_1 l0_1.length c0_1,.int .i64 a0_2,.slice A0_3 l0_3.length c0_3,.slice A0_4 l0_4.length c0_4,.slice A0_5 l0_5.length c0_5,.slice A0_6 l0_6.length c0_6,.slice A0_7 l0_7.length c0_7,.slice A0_8 l0_8.length c0_8,.slice A0_9 l0_9.length c0_9,.int .i64 a0_10] 31 (0,0))) := ⟨by rw [← hq_];exact (by (with_reducible repeat (first | refine blk_drewN ?_ _ | refine blk_drew ?_ | refine blk_alloc ?_ _));exact BK151.out)⟩;have n2_ : Aside0 (w18.heap[gb156]? = some (.cells #[.int .i64 ((rd_T47 l2 x20_1).f0),.int .i64 ((rd_T47 l2 x20_1).f1)] 47 (0,0))) := ⟨by rw [← hq_];exact (by (with_reducible repeat (first | refine blk_drewN ?_ _ | refine blk_drew ?_ | refine blk_alloc ?_ _));exact BK156.out)⟩;have n3_ : Aside0 (Below w.heap.size w w18) := ⟨by rw [← hq_];exact (by repeat (first | (with_reducible first | exact HB.out | apply below_alloc | apply pw_below_drewN | apply below_drew1 | refine below_set ?_ GE151.out | refine below_set ?_ GE156.out) | exact HB.out))⟩;clear HO_7 BK151 BK156 HB hq_;have HO_7 := n0_;have BK151 := n1_;have BK156 := n2_;have HB := n3_;clear n0_ n1_ n2_ n3_))
          have n0_ := Aside0.mk (Kd.R_drew HO_7.out)
          have n1_ := Aside0.mk (blk_drew BK151.out)
          have n2_ := Aside0.mk (blk_drew BK156.out)
          have n3_ := Aside0.mk (below_drew1 HB.out)
          clear HO_7
          clear BK151
          clear BK156
          clear HB
          have HO_7 := n0_
          have BK151 := n1_
          have BK156 := n2_
          have HB := n3_
          clear n0_ n1_ n2_ n3_
          refine start_ (n := 12) (S := fun w' => True) (ds := []) #[false,false,false,false,false,false,false,false,false,false,false,false] (by kernel_rfl) rfl rfl trivial (fun hHeld => ?_);refine with_tabW allot_Back.tab6 allot_Back.bits6 (fun HT_ HW_ => ?_)
          generalize w18.drew = w20 at HO_7 BK151 BK156 HB hHeld ⊢
          refine pure_ (i := 0) (N := some 27) (v := ?_) (a' := ?_) #[true,false,false,false,false,false,false,false,false,false,false,false] rfl rfl (any_of HT_.out (by kernel_rfl)) (fun _ _ _ h => h) (Or.inl ⟨by rfl,?_⟩) ?_ ?_
          rotate_left
          ·intro w'
           go_simp
           with_reducible rfl
          rotate_left
          ·simp only [Act.put,List.setIfInBounds_toArray,List.set_cons_zero,List.set_cons_succ,i64_w,i32_w]
           rfl
          refine pure_ (i := 1) (N := some 28) (v := ?_) (a' := ?_) #[true,true,false,false,false,false,false,false,false,false,false,false] rfl rfl (any_of HT_.out (by kernel_rfl)) (fun _ _ _ h => h) (Or.inl ⟨by rfl,?_⟩) ?_ ?_
          rotate_left
          ·intro w'
           go_simp
           with_reducible rfl
          rotate_left
          ·simp only [Act.put,List.setIfInBounds_toArray,List.set_cons_zero,List.set_cons_succ,i64_w,i32_w]
           rfl
          refine pure_ (i := 2) (N := some 29) (v := ?_) (a' := ?_) #[true,true,true,false,false,false,false,false,false,false,false,false] rfl rfl (any_of HT_.out (by kernel_rfl)) (fun _ _ _ h => h) (Or.inl ⟨by rfl,?_⟩) ?_ ?_
          rotate_left
          ·intro w'
           go_simp
           with_reducible rfl
          rotate_left
          ·simp only [Act.put,List.setIfInBounds_toArray,List.set_cons_zero,List.set_cons_succ,i64_w,i32_w]
           rfl
          refine pure_ (i := 3) (N := some 30) (v := undef) (a' := ?_) #[true,true,true,true,false,false,false,false,false,false,false,false] rfl rfl (any_of HT_.out (by kernel_rfl)) (fun _ _ _ h => h) (Or.inr ⟨by rfl,rfl⟩) ?_ ?_
          rotate_left
          ·simp only [Act.put,List.setIfInBounds_toArray,List.set_cons_zero,List.set_cons_succ,i64_w,i32_w]
           rfl
          refine pure_ (i := 4) (N := some 31) (v := undef) (a' := ?_) #[true,true,true,true,true,false,false,false,false,false,false,false] rfl rfl (any_of HT_.out (by kernel_rfl)) (fun _ _ _ h => h) (Or.inr ⟨by rfl,rfl⟩) ?_ ?_
          rotate_left
          ·simp only [Act.put,List.setIfInBounds_toArray,List.set_cons_zero,List.set_cons_succ,i64_w,i32_w]
           rfl
          refine pure_ (i := 5) (N := some 32) (v := undef) (a' := ?_) #[true,true,true,true,true,true,false,false,false,false,false,false] rfl rfl (any_of HT_.out (by kernel_rfl)) (fun _ _ _ h => h) (Or.inr ⟨by rfl,rfl⟩) ?_ ?_
          rotate_left
          ·simp only [Act.put,List.setIfInBounds_toArray,List.set_cons_zero,List.set_cons_succ,i64_w,i32_w]
           rfl
          refine pure_ (i := 6) (N := some 33) (v := undef) (a' := ?_) #[true,true,true,true,true,true,true,false,false,false,false,false] rfl rfl (any_of HT_.out (by kernel_rfl)) (fun _ _ _ h => h) (Or.inr ⟨by rfl,rfl⟩) ?_ ?_
          rotate_left
          ·simp only [Act.put,List.setIfInBounds_toArray,List.set_cons_zero,List.set_cons_succ,i64_w,i32_w]
           rfl
          refine pure_ (i := 7) (N := some 34) (v := undef) (a' := ?_) #[true,true,true,true,true,true,true,true,false,false,false,false] rfl rfl (any_of HT_.out (by kernel_rfl)) (fun _ _ _ h => h) (Or.inr ⟨by rfl,rfl⟩) ?_ ?_
          rotate_left
          ·simp only [Act.put,List.setIfInBounds_toArray,List.set_cons_zero,List.set_cons_succ,i64_w,i32_w]
           rfl
          refine pure_ (i := 8) (N := some 35) (v := undef) (a' := ?_) #[true,true,true,true,true,true,true,true,true,false,false,false] rfl rfl (any_of HT_.out (by kernel_rfl)) (fun _ _ _ h => h) (Or.inr ⟨by rfl,rfl⟩) ?_ ?_
          rotate_left
          ·simp only [Act.put,List.setIfInBounds_toArray,List.set_cons_zero,List.set_cons_succ,i64_w,i32_w]
           rfl
          refine pure_ (i := 9) (N := some 36) (v := undef) (a' := ?_) #[true,true,true,true,true,true,true,true,true,true,false,false] rfl rfl (any_of HT_.out (by kernel_rfl)) (fun _ _ _ h => h) (Or.inr ⟨by rfl,rfl⟩) ?_ ?_
          rotate_left
          ·simp only [Act.put,List.setIfInBounds_toArray,List.set_cons_zero,List.set_cons_succ,i64_w,i32_w]
           rfl
          refine pure_ (i := 10) (N := some 37) (v := undef) (a' := ?_) #[true,true,true,true,true,true,true,true,true,true,true,false] rfl rfl (any_of HT_.out (by kernel_rfl)) (fun _ _ _ h => h) (Or.inr ⟨by rfl,rfl⟩) ?_ ?_
          rotate_left
          ·simp only [Act.put,List.setIfInBounds_toArray,List.set_cons_zero,List.set_cons_succ,i64_w,i32_w]
           rfl
          refine pure_ (i := 11) (N := some 38) (v := ?_) (a' := ?_) #[true,true,true,true,true,true,true,true,true,true,true,true] rfl rfl (any_of HT_.out (by kernel_rfl)) (fun _ _ _ h => h) (Or.inl ⟨by rfl,?_⟩) ?_ ?_
          rotate_left
          ·intro w'
           go_simp
           with_reducible rfl
          rotate_left
          ·simp only [Act.put,List.setIfInBounds_toArray,List.set_cons_zero,List.set_cons_succ,i64_w,i32_w]
           rfl
          refine done_ (done_of HT_.out (by kernel_rfl)) ?_
          try go_wp2
          go_meet
          case rel => exact ⟨_,(true),(by first | rfl | (simp;done) | (simp [*];done)),H',⟨by have := HK1.out;first | omega | exact Nat.le_refl _⟩,⟨by (with_reducible repeat (first | apply Kd.R_alloc | apply Kd.R_drewN | apply Kd.R_drew));exact HO_7.out⟩,⟨by (with_reducible repeat (first | refine blk_drewN ?_ _ | refine blk_drew ?_ | refine blk_alloc ?_ _));exact BK151.out⟩,⟨by (with_reducible repeat (first | refine blk_drewN ?_ _ | refine blk_drew ?_ | refine blk_alloc ?_ _));exact BK156.out⟩,⟨by repeat (first | (with_reducible first | exact HB.out | apply below_alloc | apply pw_below_drewN | apply below_drew1 | refine below_set ?_ GE151.out | refine below_set ?_ GE156.out) | exact HB.out)⟩⟩
         ·rw [if_neg c19] at H
          have c19b0 : decide (t157 < 0) = false := decide_eq_false c19
          clear c19
          (first | rw [c19b0] | (simp only [i64_w,i32_w];rw [c19b0]) | skip)
          by_cases c21 : 0 ≤ t157
          ·rw [if_pos c21] at H
           have c21b0 : decide (0 ≤ t157) = true := decide_eq_true c21
           clear c21
           by_cases c22 : t157 < (l1.length : Int)
           ·rw [if_pos c22] at H
            have c22b0 : decide (t157 < (l1.length : Int)) = true := decide_eq_true c22
            clear c22
            replace H := Option.bind_eq_some_iff.mp H
            obtain ⟨t159,A230,H⟩ := H
            replace H : (allot_Back.j1 k1 l1 x7_1 t157 l2 (l2.length : Int) x20_1 (!t159) a0_0 l0_1 a0_2 l0_3 l0_4 l0_5 l0_6 l0_7 l0_8 l0_9 a0_10 ((rd_T47 l2 x20_1).f0) ((rd_T47 l2 x20_1).f1)) = some r := H
            have A23 := Aside0.mk A230
            clear A230
            have H' := Aside0.mk H
            clear H
            try go_wp2
            (repeat (rw [drewN_self w18];generalize hq_ : World.drewN w18 _ = w18;have n0_ : Aside0 (Kd.R (Kd.int .i64) 3 w18 w.heap.size (fun _ => True) v153 x7_1) := ⟨by rw [← hq_];exact (by (with_reducible repeat (first | apply Kd.R_alloc | apply Kd.R_drewN | apply Kd.R_drew));exact HO_7.out)⟩;have n1_ : Aside0 (w18.heap[gb151]? = some (.cells #[.string a0_0,.slice A0_1 l0_1.length c0_1,.int .i64 a0_2,.slice A0_3 l0_3.length c0_3,.slice A0_4 l0_4.length c0_4,.slice A0_5 l0_5.length c0_5,.slice A0_6 l0_6.length c0_6,.slice A0_7 l0_7.length c0_7,.slice A0_8 l0_8.length c0_8,.slice A0_9 l0_9.length c0_9,.int .i64 a0_10] 31 (0,0))) := ⟨by rw [← hq_];exact (by (with_reducible repeat (first | refine blk_drewN ?_ _ | refine blk_drew ?_ | refine blk_alloc ?_ _));exact BK151.out)⟩;have n2_ : Aside0 (w18.heap[gb156]? = some (.cells #[.int .i64 ((rd_T47 l2 x20_1).f0),.int .i64 ((rd_T47 l2 x20_1).f1)] 47 (0,0))) := ⟨by rw [← hq_];exact (by (with_reducible repeat (first | refine blk_drewN ?_ _ | refine blk_drew ?_ | refine blk_alloc ?_ _));exact BK156.out)⟩;have n3_ : Aside0 (Below w.heap.size w w18) := ⟨by rw [← hq_];exact (by repeat (first | (with_reducible first | exact HB.out | apply below_alloc | apply pw_below_drewN | apply below_drew1 | refine below_set ?_ GE151.out | refine below_set ?_ GE156.out) | exact HB.out))⟩;clear HO_7 BK151 BK156 HB hq_;have HO_7 := n0_;have BK151 := n1_;have BK156 := n2_;have HB := n3_;clear n0_ n1_ n2_ n3_))
            have n0_ := Aside0.mk (Kd.R_drew HO_7.out)
            have n1_ := Aside0.mk (blk_drew BK151.out)
            have n2_ := Aside0.mk (blk_drew BK156.out)
            have n3_ := Aside0.mk (below_drew1 HB.out)
            clear HO_7
            clear BK151
            clear BK156
            clear HB
            have HO_7 := n0_
            have BK151 := n1_
            have BK156 := n2_
            have HB := n3_
            clear n0_ n1_ n2_ n3_
            have p158 : 0 ≤ (t157 : Int) := of_decide_eq_true (by first | (with_reducible assumption) | assumption)
            have q158 : t157 < (l1.length : Int) := of_decide_eq_true (by first | (with_reducible assumption) | assumption)
            obtain ⟨ad158,e158,hx158_0,hx158_1,hx158_2,hx158_3,hx158_4,hx158_5,hx158_6,hx158_7,hx158_8⟩ := at_T45 HR1.out t157 p158 q158
            have hw158_8 := hx158_8
            have hw158_7 := hx158_7
            have hw158_6 := hx158_6
            have hw158_5 := hx158_5
            have hw158_4 := hx158_4
            have hw158_3 := hx158_3
            have hw158_2 := hx158_2
            have hw158_1 := hx158_1
            have hw158_0 := hx158_0
            cases e158
            replace hx158_0 := (HB.out.cell (World.block_lt_of_cell? w _ hx158_0)).trans hx158_0
            replace hx158_1 := (HB.out.cell (World.block_lt_of_cell? w _ hx158_1)).trans hx158_1
            replace hx158_2 := (HB.out.cell (World.block_lt_of_cell? w _ hx158_2)).trans hx158_2
            replace hx158_3 := (HB.out.cell (World.block_lt_of_cell? w _ hx158_3)).trans hx158_3
            replace hx158_4 := (HB.out.cell (World.block_lt_of_cell? w _ hx158_4)).trans hx158_4
            replace hx158_5 := (HB.out.cell (World.block_lt_of_cell? w _ hx158_5)).trans hx158_5
            replace hx158_6 := (HB.out.cell (World.block_lt_of_cell? w _ hx158_6)).trans hx158_6
            replace hx158_7 := (HB.out.cell (World.block_lt_of_cell? w _ hx158_7)).trans hx158_7
            replace hx158_8 := (HB.out.cell (World.block_lt_of_cell? w _ hx158_8)).trans hx158_8
            replace p158 := eq_true p158
            replace q158 := eq_true q158
            refine start_ (n := 12) (S := fun w' => w'.cell? ⟨gb151,0,none⟩ = some (.string a0_0) ∧ w'.cell? ⟨gb151,1,none⟩ = some (.slice A0_1 l0_1.length c0_1) ∧ w'.cell? ⟨gb151,2,none⟩ = some (.int .i64 a0_2) ∧ w'.cell? ⟨gb151,3,none⟩ = some (.slice A0_3 l0_3.length c0_3) ∧ w'.cell? ⟨gb151,4,none⟩ = some (.slice A0_4 l0_4.length c0_4) ∧ w'.cell? ⟨gb151,5,none⟩ = some (.slice A0_5 l0_5.length c0_5) ∧ w'.cell? ⟨gb151,6,none⟩ = some (.slice A0_6 l0_6.length c0_6) ∧ w'.cell? ⟨gb151,7,none⟩ = some (.slice A0_7 l0_7.length c0_7) ∧ w'.cell? ⟨gb151,8,none⟩ = some (.slice A0_8 l0_8.length c0_8) ∧ w'.cell? ⟨gb151,9,none⟩ = some (.slice A0_9 l0_9.length c0_9) ∧ w'.cell? ⟨gb151,10,none⟩ = some (.int .i64 a0_10) ∧ w'.cell? (ad158.add ((t157).toNat * 9)) = some (.int .i64 ((rd_T45 l1 t157).f0)) ∧ w'.cell? ⟨(ad158.add ((t157).toNat * 9)).block,(ad158.add ((t157).toNat * 9)).off + 1,none⟩ = some (.int .i64 ((rd_T45 l1 t157).f1)) ∧ w'.cell? ⟨(ad158.add ((t157).toNat * 9)).block,(ad158.add ((t157).toNat * 9)).off + 2,none⟩ = some (.int .i64 ((rd_T45 l1 t157).f2)) ∧ w'.cell? ⟨(ad158.add ((t157).toNat * 9)).block,(ad158.add ((t157).toNat * 9)).off + 3,none⟩ = some (.int .i64 ((rd_T45 l1 t157).f3)) ∧ w'.cell? ⟨(ad158.add ((t157).toNat * 9)).block,(ad158.add ((t157).toNat * 9)).off + 4,none⟩ = some (.int .i64 ((rd_T45 l1 t157).f4)) ∧ w'.cell? ⟨(ad158.add ((t157).toNat * 9)).block,(ad158.add ((t157).toNat * 9)).off + 5,none⟩ = some (.int .i64 ((rd_T45 l1 t157).f5)) ∧ w'.cell? ⟨(ad158.add ((t157).toNat * 9)).block,(ad158.add ((t157).toNat * 9)).off + 6,none⟩ = some (.int .i64 ((rd_T45 l1 t157).f6)) ∧ w'.cell? ⟨(ad158.add ((t157).toNat * 9)).block,(ad158.add ((t157).toNat * 9)).off + 7,none⟩ = some (.int .i64 ((rd_T45 l1 t157).f7)) ∧ w'.cell? ⟨(ad158.add ((t157).toNat * 9)).block,(ad158.add ((t157).toNat * 9)).off + 8,none⟩ = some (.int .i64 ((rd_T45 l1 t157).f8))) (ds := []) #[false,false,false,false,false,false,false,false,false,false,false,false] (by kernel_rfl) rfl rfl ⟨(blk_cell BK151.out 0).trans rfl,(blk_cell BK151.out 1).trans rfl,(blk_cell BK151.out 2).trans rfl,(blk_cell BK151.out 3).trans rfl,(blk_cell BK151.out 4).trans rfl,(blk_cell BK151.out 5).trans rfl,(blk_cell BK151.out 6).trans rfl,(blk_cell BK151.out 7).trans rfl,(blk_cell BK151.out 8).trans rfl,(blk_cell BK151.out 9).trans rfl,(blk_cell BK151.out 10).trans rfl,((HB.out.cell (World.block_lt_of_cell? w _ hw158_0)).trans hw158_0),((HB.out.cell (World.block_lt_of_cell? w _ hw158_1)).trans hw158_1),((HB.out.cell (World.block_lt_of_cell? w _ hw158_2)).trans hw158_2),((HB.out.cell (World.block_lt_of_cell? w _ hw158_3)).trans hw158_3),((HB.out.cell (World.block_lt_of_cell? w _ hw158_4)).trans hw158_4),((HB.out.cell (World.block_lt_of_cell? w _ hw158_5)).trans hw158_5),((HB.out.cell (World.block_lt_of_cell? w _ hw158_6)).trans hw158_6),((HB.out.cell (World.block_lt_of_cell? w _ hw158_7)).trans hw158_7),((HB.out.cell (World.block_lt_of_cell? w _ hw158_8)).trans hw158_8)⟩ (fun hHeld => ?_);refine with_tabW allot_Back.tab6 allot_Back.bits6 (fun HT_ HW_ => ?_)
            generalize w18.drew = w24 at HO_7 BK151 BK156 HB hx158_0 hx158_1 hx158_2 hx158_3 hx158_4 hx158_5 hx158_6 hx158_7 hx158_8 hHeld ⊢
            refine pure_ (i := 0) (N := some 27) (v := ?_) (a' := ?_) #[true,false,false,false,false,false,false,false,false,false,false,false] rfl rfl (any_of HT_.out (by kernel_rfl)) (fun _ _ _ h => h) (Or.inl ⟨by rfl,?_⟩) ?_ ?_
            rotate_left
            ·intro w'
             go_simp
             with_reducible rfl
            rotate_left
            ·simp only [Act.put,List.setIfInBounds_toArray,List.set_cons_zero,List.set_cons_succ,i64_w,i32_w]
             rfl
            refine pure_ (i := 1) (N := some 28) (v := ?_) (a' := ?_) #[true,true,false,false,false,false,false,false,false,false,false,false] rfl rfl (any_of HT_.out (by kernel_rfl)) (fun _ _ _ h => h) (Or.inl ⟨by rfl,?_⟩) ?_ ?_
            rotate_left
            ·intro w'
             go_simp
             with_reducible rfl
            rotate_left
            ·simp only [Act.put,List.setIfInBounds_toArray,List.set_cons_zero,List.set_cons_succ,i64_w,i32_w]
             rfl
            refine pure_ (i := 2) (N := some 29) (v := ?_) (a' := ?_) #[true,true,true,false,false,false,false,false,false,false,false,false] rfl rfl (any_of HT_.out (by kernel_rfl)) (fun _ _ _ h => h) (Or.inl ⟨by rfl,?_⟩) ?_ ?_
            rotate_left
            ·intro w'
             go_simp
             with_reducible rfl
            rotate_left
            ·simp only [Act.put,List.setIfInBounds_toArray,List.set_cons_zero,List.set_cons_succ,i64_w,i32_w]
             rfl
            refine pure_ (i := 4) (N := some 31) (v := ?_) (a' := ?_) #[true,true,true,false,true,false,false,false,false,false,false,false] rfl rfl (any_of HT_.out (by kernel_rfl)) (fun _ _ _ h => h) (Or.inl ⟨by rfl,?_⟩) ?_ ?_
            rotate_left
            ·intro w'
             go_simp
             with_reducible rfl
            rotate_left
            ·simp only [Act.put,List.setIfInBounds_toArray,List.set_cons_zero,List.set_cons_succ,i64_w,i32_w]
             rfl
            refine pure_ (i := 5) (N := some 32) (v := ?_) (a' := ?_) #[true,true,true,false,true,true,false,false,false,false,false,false] rfl rfl (any_of HT_.out (by kernel_rfl)) (fun _ _ _ h => h) (Or.inl ⟨by rfl,?_⟩) ?_ ?_
            rotate_left
            ·intro w'
             go_simp
             with_reducible rfl
            rotate_left
            ·simp only [Act.put,List.setIfInBounds_toArray,List.set_cons_zero,List.set_cons_succ,i64_w,i32_w]
             rfl
            refine pure_ (i := 6) (N := some 33) (v := ?_) (a' := ?_) #[true,true,true,false,true,true,true,false,false,false,false,false] rfl rfl (any_of HT_.out (by kernel_rfl)) (fun _ _ _ h => h) (Or.inl ⟨by rfl,?_⟩) ?_ ?_
            rotate_left
            ·intro w'
             go_simp
             with_reducible rfl
            rotate_left
            ·simp only [Act.put,List.setIfInBounds_toArray,List.set_cons_zero,List.set_cons_succ,i64_w,i32_w]
             rfl
            refine pure_ (i := 7) (N := some 34) (v := ?_) (a' := ?_) #[true,true,true,false,true,true,true,true,false,false,false,false] rfl rfl (any_of HT_.out (by kernel_rfl)) (fun _ _ _ h => h) (Or.inl ⟨by rfl,?_⟩) ?_ ?_
            rotate_left
            ·intro w'
             go_simp
             with_reducible rfl
            rotate_left
            ·simp only [Act.put,List.setIfInBounds_toArray,List.set_cons_zero,List.set_cons_succ,i64_w,i32_w]
             rfl
            refine take_ (i := 3) (N := some 30) (v := ?_) (a' := ?_) #[true,true,true,true,true,true,true,true,false,false,false,false] rfl rfl (take_ofW HT_.out HW_.out (by kernel_rfl)) (fun _ _ _ h => h) (Or.inl ⟨by rfl,?_⟩) hHeld ?_ ?_
            rotate_left
            ·rintro w' ⟨s0,s1,s2,s3,s4,s5,s6,s7,s8,s9,s10,s11,s12,s13,s14,s15,s16,s17,s18,s19⟩
             go_simp
             with_reducible rfl
            rotate_left
            ·simp only [Act.put,List.setIfInBounds_toArray,List.set_cons_zero,List.set_cons_succ,i64_w,i32_w]
             rfl
            refine take_ (i := 8) (N := some 35) (v := ?_) (a' := ?_) #[true,true,true,true,true,true,true,true,true,false,false,false] rfl rfl (take_ofW HT_.out HW_.out (by kernel_rfl)) (fun _ _ _ h => h) (Or.inl ⟨by rfl,?_⟩) hHeld ?_ ?_
            rotate_left
            ·rintro w' ⟨s0,s1,s2,s3,s4,s5,s6,s7,s8,s9,s10,s11,s12,s13,s14,s15,s16,s17,s18,s19⟩
             go_simp
             with_reducible rfl
            rotate_left
            ·simp only [Act.put,List.setIfInBounds_toArray,List.set_cons_zero,List.set_cons_succ,i64_w,i32_w]
             rfl
            refine one_ (i := 9) (N := some 36) #[true,true,true,true,true,true,true,true,true,true,false,false] rfl rfl (one_of HT_.out (by kernel_rfl)) (by decide) (fun K hK => ?_)
            refine goes_ Try.func23 (by kernel_rfl) rfl #[.agg #[.string a0_0,.slice A0_1 l0_1.length c0_1,.int .i64 a0_2,.slice A0_3 l0_3.length c0_3,.slice A0_4 l0_4.length c0_4,.slice A0_5 l0_5.length c0_5,.slice A0_6 l0_6.length c0_6,.slice A0_7 l0_7.length c0_7,.slice A0_8 l0_8.length c0_8,.slice A0_9 l0_9.length c0_9,.int .i64 a0_10],.int .i64 ((rd_T45 l1 t157).f8)] (by rfl) rfl rfl (by (try simp only [List.map_toArray,List.map_cons,List.map_nil]);first | done | rfl | (simp only [List.length_drop,List.length_take];rfl)) ?_
            with_reducible refine (allot_is.calls a0_0 _ _ l0_1 a0_2 _ _ l0_3 _ _ l0_4 _ _ l0_5 _ _ l0_6 _ _ l0_7 _ _ l0_8 _ _ l0_9 a0_10 ((rd_T45 l1 t157).f8) t159 _ ?side1 ?side2 ?side3 ?side4 ?side5 ?side6 ?side7 ?side8 ?side9 ?side10 ?side11 ?side12 ?side13 ?side14 ?side15 ?side16 A23.out).mono ?_
            (case side1 => repeat (first | exact (Kd.C_below HR0_1.out HB.out) | (with_reducible refine Kd.C_alloc ?_ _) | (with_reducible refine Kd.C_drewN ?_ _) | (with_reducible refine Kd.C_drew ?_)))
            (case side2 => exact HC0_1.out)
            (case side3 => repeat (first | exact (Kd.C_below HR0_3.out HB.out) | (with_reducible refine Kd.C_alloc ?_ _) | (with_reducible refine Kd.C_drewN ?_ _) | (with_reducible refine Kd.C_drew ?_)))
            (case side4 => exact HC0_3.out)
            (case side5 => repeat (first | exact (Kd.C_below HR0_4.out HB.out) | (with_reducible refine Kd.C_alloc ?_ _) | (with_reducible refine Kd.C_drewN ?_ _) | (with_reducible refine Kd.C_drew ?_)))
            (case side6 => exact HC0_4.out)
            (case side7 => repeat (first | exact (Kd.C_below HR0_5.out HB.out) | (with_reducible refine Kd.C_alloc ?_ _) | (with_reducible refine Kd.C_drewN ?_ _) | (with_reducible refine Kd.C_drew ?_)))
            (case side8 => exact HC0_5.out)
            (case side9 => repeat (first | exact (Kd.C_below HR0_6.out HB.out) | (with_reducible refine Kd.C_alloc ?_ _) | (with_reducible refine Kd.C_drewN ?_ _) | (with_reducible refine Kd.C_drew ?_)))
            (case side10 => exact HC0_6.out)
            (case side11 => repeat (first | exact (Kd.C_below HR0_7.out HB.out) | (with_reducible refine Kd.C_alloc ?_ _) | (with_reducible refine Kd.C_drewN ?_ _) | (with_reducible refine Kd.C_drew ?_)))
            (case side12 => exact HC0_7.out)
            (case side13 => repeat (first | exact (Kd.C_below HR0_8.out HB.out) | (with_reducible refine Kd.C_alloc ?_ _) | (with_reducible refine Kd.C_drewN ?_ _) | (with_reducible refine Kd.C_drew ?_)))
            (case side14 => exact HC0_8.out)
            (case side15 => repeat (first | exact (Kd.C_below HR0_9.out HB.out) | (with_reducible refine Kd.C_alloc ?_ _) | (with_reducible refine Kd.C_drewN ?_ _) | (with_reducible refine Kd.C_drew ?_)))
            (case side16 => exact HC0_9.out)
            rintro e w25 ⟨rfl,hb⟩
            refine ⟨_,rfl,?_⟩
            have n0_ := Aside0.mk (Kd.R_below (by (with_reducible repeat (first | apply Kd.R_alloc | apply Kd.R_drewN | apply Kd.R_drew));exact HO_7.out) hb)
            have n1_ := Aside0.mk (blk_below (g := gb151) (o := .cells #[.string a0_0,.slice A0_1 l0_1.length c0_1,.int .i64 a0_2,.slice A0_3 l0_3.length c0_3,.slice A0_4 l0_4.length c0_4,.slice A0_5 l0_5.length c0_5,.slice A0_6 l0_6.length c0_6,.slice A0_7 l0_7.length c0_7,.slice A0_8 l0_8.length c0_8,.slice A0_9 l0_9.length c0_9,.int .i64 a0_10] 31 (0,0)) (by (with_reducible repeat (first | refine blk_drewN ?_ _ | refine blk_drew ?_ | refine blk_alloc ?_ _));exact BK151.out) hb)
            have n2_ := Aside0.mk (blk_below (g := gb156) (o := .cells #[.int .i64 ((rd_T47 l2 x20_1).f0),.int .i64 ((rd_T47 l2 x20_1).f1)] 47 (0,0)) (by (with_reducible repeat (first | refine blk_drewN ?_ _ | refine blk_drew ?_ | refine blk_alloc ?_ _));exact BK156.out) hb)
            have n3_ := Aside0.mk (below_step (by repeat (first | (with_reducible first | exact HB.out | apply below_alloc | apply pw_below_drewN | apply below_drew1 | refine below_set ?_ GE151.out | refine below_set ?_ GE156.out) | exact HB.out)) hb)
            clear HO_7
            clear BK151
            clear BK156
            clear HB
            have HO_7 := n0_
            have BK151 := n1_
            have BK156 := n2_
            have HB := n3_
            clear n0_ n1_ n2_ n3_
            (try clear hb)
            (try clear hb2)
            (try clear hk)
            (try clear hi)
            refine hK.out _ _ ⟨(blk_cell BK151.out 0).trans rfl,(blk_cell BK151.out 1).trans rfl,(blk_cell BK151.out 2).trans rfl,(blk_cell BK151.out 3).trans rfl,(blk_cell BK151.out 4).trans rfl,(blk_cell BK151.out 5).trans rfl,(blk_cell BK151.out 6).trans rfl,(blk_cell BK151.out 7).trans rfl,(blk_cell BK151.out 8).trans rfl,(blk_cell BK151.out 9).trans rfl,(blk_cell BK151.out 10).trans rfl,((HB.out.cell (World.block_lt_of_cell? w _ hw158_0)).trans hw158_0),((HB.out.cell (World.block_lt_of_cell? w _ hw158_1)).trans hw158_1),((HB.out.cell (World.block_lt_of_cell? w _ hw158_2)).trans hw158_2),((HB.out.cell (World.block_lt_of_cell? w _ hw158_3)).trans hw158_3),((HB.out.cell (World.block_lt_of_cell? w _ hw158_4)).trans hw158_4),((HB.out.cell (World.block_lt_of_cell? w _ hw158_5)).trans hw158_5),((HB.out.cell (World.block_lt_of_cell? w _ hw158_6)).trans hw158_6),((HB.out.cell (World.block_lt_of_cell? w _ hw158_7)).trans hw158_7),((HB.out.cell (World.block_lt_of_cell? w _ hw158_8)).trans hw158_8)⟩ (fun hHeld => ?_)
            clear hK K
            refine norm_ (a' := ?_) ?_ ?_
            rotate_left
            ·show Act.put _ (some 36) _ = _
             simp only [Act.put,List.setIfInBounds_toArray,List.set_cons_zero,List.set_cons_succ,i64_w,i32_w]
             rfl
            refine pure_ (i := 10) (N := some 37) (v := ?_) (a' := ?_) #[true,true,true,true,true,true,true,true,true,true,true,false] rfl rfl (any_of HT_.out (by kernel_rfl)) (fun _ _ _ h => h) (Or.inl ⟨by rfl,?_⟩) ?_ ?_
            rotate_left
            ·intro w'
             go_simp
             with_reducible rfl
            rotate_left
            ·simp only [Act.put,List.setIfInBounds_toArray,List.set_cons_zero,List.set_cons_succ,i64_w,i32_w]
             rfl
            refine pure_ (i := 11) (N := some 38) (v := ?_) (a' := ?_) #[true,true,true,true,true,true,true,true,true,true,true,true] rfl rfl (any_of HT_.out (by kernel_rfl)) (fun _ _ _ h => h) (Or.inl ⟨by rfl,?_⟩) ?_ ?_
            rotate_left
            ·intro w'
             go_simp
             with_reducible rfl
            rotate_left
            ·simp only [Act.put,List.setIfInBounds_toArray,List.set_cons_zero,List.set_cons_succ,i64_w,i32_w]
             rfl
            refine done_ (done_of HT_.out (by kernel_rfl)) ?_
            try go_wp2
            go_meet
            case rel => exact ⟨_,(!t159),(by first | rfl | (simp;done) | (simp [*];done)),H',⟨by have := HK1.out;first | omega | exact Nat.le_refl _⟩,⟨by (with_reducible repeat (first | apply Kd.R_alloc | apply Kd.R_drewN | apply Kd.R_drew));exact HO_7.out⟩,⟨by (with_reducible repeat (first | refine blk_drewN ?_ _ | refine blk_drew ?_ | refine blk_alloc ?_ _));exact BK151.out⟩,⟨by (with_reducible repeat (first | refine blk_drewN ?_ _ | refine blk_drew ?_ | refine blk_alloc ?_ _));exact BK156.out⟩,⟨by repeat (first | (with_reducible first | exact HB.out | apply below_alloc | apply pw_below_drewN | apply below_drew1 | refine below_set ?_ GE151.out | refine below_set ?_ GE156.out) | exact HB.out)⟩⟩
           ·rw [if_neg c22] at H
            exact absurd H (by simp)
          ·rw [if_neg c21] at H
           exact absurd H (by simp)
        case rest =>
         clear HC14
         try clear c1
         try clear p1
         try clear q1
         try clear hx1
         try clear c2
         try clear p2
         try clear c4
         try clear c4b0
         try clear c4b1
         try clear c5
         try clear c5b0
         try clear c5b1
         try clear c10
         try clear c10b0
         try clear c11
         try clear c11b0
         try clear c12
         try clear c12b0
         try clear c15
         try clear p15
         try clear q15
         try clear hx15
         try clear c16
         try clear c19
         try clear c19b0
         try clear c21
         try clear c21b0
         try clear c22
         try clear c22b0
         try clear c23
         try clear c25
         try clear hcz17_0
         try clear hcz17_1
         try clear hcz7_0
         try clear hcz7_1
         try clear hcz7_10
         try clear hcz7_2
         try clear hcz7_3
         try clear hcz7_4
         try clear hcz7_5
         try clear hcz7_6
         try clear hcz7_7
         try clear hcz7_8
         try clear hcz7_9
         try clear hfz17_0
         try clear hfz17_1
         try clear hfz7_0
         try clear hfz7_1
         try clear hfz7_10
         try clear hfz7_2
         try clear hfz7_3
         try clear hfz7_4
         try clear hfz7_5
         try clear hfz7_6
         try clear hfz7_7
         try clear hfz7_8
         try clear hfz7_9
         try clear hx155_0
         try clear hx155_1
         try clear hx158_0
         try clear hx158_1
         try clear hx158_2
         try clear hx158_3
         try clear hx158_4
         try clear hx158_5
         try clear hx158_6
         try clear hx158_7
         try clear hx158_8
         try clear p155
         try clear p158
         try clear p2
         try clear q155
         try clear q158
         obtain ⟨kq,x38_13,rfl,HA,HJ13,HO_7,BK151,BK156,HB⟩ := hcut
         cases kq with
         | zero => exact absurd HA.out (by simp [allot_Back.j1])
         | succ kj13 =>
          have H := HA.out
          clear HA
          simp only [allot_Back.j1] at H
          by_cases c26 : x38_13 = true
          ·subst c26
           have H1 : (allot_Back.l0 kj13 l1 x7_1 l2 (l2.length : Int) (wrap64 (x20_1 + 1)) a0_0 l0_1 a0_2 l0_3 l0_4 l0_5 l0_6 l0_7 l0_8 l0_9 a0_10) = some r := by rw [if_pos rfl] at H;exact H
           clear H
           have H := H1
           clear H1
           have H' := Aside0.mk H
           clear H
           go_wp2
           go_roundg kj13
           case measure => have := HK1.out;have := HJ13.out;omega
           case rel => exact ⟨(x7_1),(wrap64 (x20_1 + 1)),(by first | rfl | (simp;done) | (simp [*];done)),H',⟨by have := HK1.out;have := HJ13.out;omega⟩,⟨by (with_reducible repeat (first | apply Kd.R_alloc | apply Kd.R_drewN | apply Kd.R_drew));exact HO_7.out⟩,⟨by (with_reducible repeat (first | refine blk_drewN ?_ _ | refine blk_drew ?_ | refine blk_alloc ?_ _));exact BK151.out⟩,⟨by repeat (first | (with_reducible first | exact HB.out | apply below_alloc | apply pw_below_drewN | apply below_drew1 | refine below_set ?_ GE151.out | refine below_set ?_ GE156.out) | exact HB.out)⟩⟩
          ·replace c26 := Bool.eq_false_iff.mpr c26
           subst c26
           have H1 : ((exact_Clamp.f ((rd_T47 l2 x20_1).f1) 0 1125899906842624).bind fun t160 => (if 0 ≤ t157 then (if t157 < (l1.length : Int) then ((exact_Clamp.f ((rd_T45 l1 t157).f7) 0 1000).bind fun t162 => ((exact_Scale.f kj13 t160 t162 1000).bind fun bt163 => (if 0 ≤ ((rd_T45 l1 t157).f8) then (if ((rd_T45 l1 t157).f8) < (x7_1.length : Int) then ((exact_Add.f (rd x7_1 ((rd_T45 l1 t157).f8)) bt163.1).bind fun t169 => (allot_Back.l0 kj13 l1 (x7_1.set (((rd_T45 l1 t157).f8) : Int).toNat t169) l2 (l2.length : Int) (wrap64 (x20_1 + 1)) a0_0 l0_1 a0_2 l0_3 l0_4 l0_5 l0_6 l0_7 l0_8 l0_9 a0_10)) else (none)) else (none)))) else (none)) else (none))) = some r := by rw [if_neg (show ¬ (false = true) by decide)] at H;exact H
           clear H
           have H := H1
           clear H1
           replace H := Option.bind_eq_some_iff.mp H
           obtain ⟨t160,A270,H⟩ := H
           replace H : (if 0 ≤ t157 then (if t157 < (l1.length : Int) then ((exact_Clamp.f ((rd_T45 l1 t157).f7) 0 1000).bind fun t162 => ((exact_Scale.f kj13 t160 t162 1000).bind fun bt163 => (if 0 ≤ ((rd_T45 l1 t157).f8) then (if ((rd_T45 l1 t157).f8) < (x7_1.length : Int) then ((exact_Add.f (rd x7_1 ((rd_T45 l1 t157).f8)) bt163.1).bind fun t169 => (allot_Back.l0 kj13 l1 (x7_1.set (((rd_T45 l1 t157).f8) : Int).toNat t169) l2 (l2.length : Int) (wrap64 (x20_1 + 1)) a0_0 l0_1 a0_2 l0_3 l0_4 l0_5 l0_6 l0_7 l0_8 l0_9 a0_10)) else (none)) else (none)))) else (none)) else (none)) = some r := H
           have A27 := Aside0.mk A270
           clear A270
           by_cases c28 : 0 ≤ t157
           ·rw [if_pos c28] at H
            have c28b0 : decide (0 ≤ t157) = true := decide_eq_true c28
            clear c28
            by_cases c29 : t157 < (l1.length : Int)
            ·rw [if_pos c29] at H
             have c29b0 : decide (t157 < (l1.length : Int)) = true := decide_eq_true c29
             clear c29
             replace H := Option.bind_eq_some_iff.mp H
             obtain ⟨t162,A300,H⟩ := H
             replace H : ((exact_Scale.f kj13 t160 t162 1000).bind fun bt163 => (if 0 ≤ ((rd_T45 l1 t157).f8) then (if ((rd_T45 l1 t157).f8) < (x7_1.length : Int) then ((exact_Add.f (rd x7_1 ((rd_T45 l1 t157).f8)) bt163.1).bind fun t169 => (allot_Back.l0 kj13 l1 (x7_1.set (((rd_T45 l1 t157).f8) : Int).toNat t169) l2 (l2.length : Int) (wrap64 (x20_1 + 1)) a0_0 l0_1 a0_2 l0_3 l0_4 l0_5 l0_6 l0_7 l0_8 l0_9 a0_10)) else (none)) else (none))) = some r := H
             have A30 := Aside0.mk A300
             clear A300
             replace H := Option.bind_eq_some_iff.mp H
             obtain ⟨⟨t163,t164,t165⟩,A310,H⟩ := H
             replace H : (if 0 ≤ ((rd_T45 l1 t157).f8) then (if ((rd_T45 l1 t157).f8) < (x7_1.length : Int) then ((exact_Add.f (rd x7_1 ((rd_T45 l1 t157).f8)) t163).bind fun t169 => (allot_Back.l0 kj13 l1 (x7_1.set (((rd_T45 l1 t157).f8) : Int).toNat t169) l2 (l2.length : Int) (wrap64 (x20_1 + 1)) a0_0 l0_1 a0_2 l0_3 l0_4 l0_5 l0_6 l0_7 l0_8 l0_9 a0_10)) else (none)) else (none)) = some r := H
             have A31 := Aside0.mk A310
             clear A310
             by_cases c32 : 0 ≤ ((rd_T45 l1 t157).f8)
             ·rw [if_pos c32] at H
              have c32b0 : decide (0 ≤ ((rd_T45 l1 t157).f8)) = true := decide_eq_true c32
              clear c32
              by_cases c33 : ((rd_T45 l1 t157).f8) < (x7_1.length : Int)
              ·rw [if_pos c33] at H
               have c33b0 : decide (((rd_T45 l1 t157).f8) < (x7_1.length : Int)) = true := decide_eq_true c33
               clear c33
               replace H := Option.bind_eq_some_iff.mp H
               obtain ⟨t169,A340,H⟩ := H
               replace H : (allot_Back.l0 kj13 l1 (x7_1.set (((rd_T45 l1 t157).f8) : Int).toNat t169) l2 (l2.length : Int) (wrap64 (x20_1 + 1)) a0_0 l0_1 a0_2 l0_3 l0_4 l0_5 l0_6 l0_7 l0_8 l0_9 a0_10) = some r := H
               have A34 := Aside0.mk A340
               clear A340
               obtain ⟨y170,hy170⟩ : ∃ y_ : List Int,y_ = (x7_1.set (((rd_T45 l1 t157).f8) : Int).toNat t169) := ⟨_,rfl⟩
               replace H : (allot_Back.l0 kj13 l1 y170 l2 (l2.length : Int) (wrap64 (x20_1 + 1)) a0_0 l0_1 a0_2 l0_3 l0_4 l0_5 l0_6 l0_7 l0_8 l0_9 a0_10) = some r := by first | (rw [hy170];with_reducible exact H) | (have H2_ := (Option.bind_some _ _).symm.trans H;rw [hy170];with_reducible exact H2_) | (have H2_ := (Option.bind_some _ _).symm.trans H;with_reducible exact H2_) | with_reducible exact H | (rw [hy170];exact H) | exact H
               have Ny170 := Aside0.mk hy170
               clear hy170
               have H' := Aside0.mk H
               clear H
               try go_wp2
               (repeat (rw [drewN_self wc];generalize hq_ : World.drewN wc _ = wc;have n0_ : Aside0 (Kd.R (Kd.int .i64) 3 wc w.heap.size (fun _ => True) v153 x7_1) := ⟨by rw [← hq_];exact (by (with_reducible repeat (first | apply Kd.R_alloc | apply Kd.R_drewN | apply Kd.R_drew));exact HO_7.out)⟩;have n1_ : Aside0 (wc.heap[gb151]? = some (.cells #[.string a0_0,.slice A0_1 l0_1.length c0_1,.int .i64 a0_2,.slice A0_3 l0_3.length c0_3,.slice A0_4 l0_4.length c0_4,.slice A0_5 l0_5.length c0_5,.slice A0_6 l0_6.length c0_6,.slice A0_7 l0_7.length c0_7,.slice A0_8 l0_8.length c0_8,.slice A0_9 l0_9.length c0_9,.int .i64 a0_10] 31 (0,0))) := ⟨by rw [← hq_];exact (by (with_reducible repeat (first | refine blk_drewN ?_ _ | refine blk_drew ?_ | refine blk_alloc ?_ _));exact BK151.out)⟩;have n2_ : Aside0 (wc.heap[gb156]? = some (.cells #[.int .i64 ((rd_T47 l2 x20_1).f0),.int .i64 ((rd_T47 l2 x20_1).f1)] 47 (0,0))) := ⟨by rw [← hq_];exact (by (with_reducible repeat (first | refine blk_drewN ?_ _ | refine blk_drew ?_ | refine blk_alloc ?_ _));exact BK156.out)⟩;have n3_ : Aside0 (Below w.heap.size w wc) := ⟨by rw [← hq_];exact (by repeat (first | (with_reducible first | exact HB.out | apply below_alloc | apply pw_below_drewN | apply below_drew1 | refine below_set ?_ GE151.out | refine below_set ?_ GE156.out) | exact HB.out))⟩;clear HO_7 BK151 BK156 HB hq_;have HO_7 := n0_;have BK151 := n1_;have BK156 := n2_;have HB := n3_;clear n0_ n1_ n2_ n3_))
               have n0_ := Aside0.mk (Kd.R_drew HO_7.out)
               have n1_ := Aside0.mk (blk_drew BK151.out)
               have n2_ := Aside0.mk (blk_drew BK156.out)
               have n3_ := Aside0.mk (below_drew1 HB.out)
               clear HO_7
               clear BK151
               clear BK156
               clear HB
               have HO_7 := n0_
               have BK151 := n1_
               have BK156 := n2_
               have HB := n3_
               clear n0_ n1_ n2_ n3_
               have p161 : 0 ≤ (t157 : Int) := of_decide_eq_true (by first | (with_reducible assumption) | assumption)
               have q161 : t157 < (l1.length : Int) := of_decide_eq_true (by first | (with_reducible assumption) | assumption)
               obtain ⟨ad161,e161,hx161_0,hx161_1,hx161_2,hx161_3,hx161_4,hx161_5,hx161_6,hx161_7,hx161_8⟩ := at_T45 HR1.out t157 p161 q161
               have hw161_8 := hx161_8
               have hw161_7 := hx161_7
               have hw161_6 := hx161_6
               have hw161_5 := hx161_5
               have hw161_4 := hx161_4
               have hw161_3 := hx161_3
               have hw161_2 := hx161_2
               have hw161_1 := hx161_1
               have hw161_0 := hx161_0
               cases e161
               replace hx161_0 := (HB.out.cell (World.block_lt_of_cell? w _ hx161_0)).trans hx161_0
               replace hx161_1 := (HB.out.cell (World.block_lt_of_cell? w _ hx161_1)).trans hx161_1
               replace hx161_2 := (HB.out.cell (World.block_lt_of_cell? w _ hx161_2)).trans hx161_2
               replace hx161_3 := (HB.out.cell (World.block_lt_of_cell? w _ hx161_3)).trans hx161_3
               replace hx161_4 := (HB.out.cell (World.block_lt_of_cell? w _ hx161_4)).trans hx161_4
               replace hx161_5 := (HB.out.cell (World.block_lt_of_cell? w _ hx161_5)).trans hx161_5
               replace hx161_6 := (HB.out.cell (World.block_lt_of_cell? w _ hx161_6)).trans hx161_6
               replace hx161_7 := (HB.out.cell (World.block_lt_of_cell? w _ hx161_7)).trans hx161_7
               replace hx161_8 := (HB.out.cell (World.block_lt_of_cell? w _ hx161_8)).trans hx161_8
               replace p161 := eq_true p161
               replace q161 := eq_true q161
               refine start_ (n := 17) (S := fun w' => w'.cell? ⟨gb156,0,none⟩ = some (.int .i64 ((rd_T47 l2 x20_1).f0)) ∧ w'.cell? ⟨gb156,1,none⟩ = some (.int .i64 ((rd_T47 l2 x20_1).f1)) ∧ w'.cell? (ad161.add ((t157).toNat * 9)) = some (.int .i64 ((rd_T45 l1 t157).f0)) ∧ w'.cell? ⟨(ad161.add ((t157).toNat * 9)).block,(ad161.add ((t157).toNat * 9)).off + 1,none⟩ = some (.int .i64 ((rd_T45 l1 t157).f1)) ∧ w'.cell? ⟨(ad161.add ((t157).toNat * 9)).block,(ad161.add ((t157).toNat * 9)).off + 2,none⟩ = some (.int .i64 ((rd_T45 l1 t157).f2)) ∧ w'.cell? ⟨(ad161.add ((t157).toNat * 9)).block,(ad161.add ((t157).toNat * 9)).off + 3,none⟩ = some (.int .i64 ((rd_T45 l1 t157).f3)) ∧ w'.cell? ⟨(ad161.add ((t157).toNat * 9)).block,(ad161.add ((t157).toNat * 9)).off + 4,none⟩ = some (.int .i64 ((rd_T45 l1 t157).f4)) ∧ w'.cell? ⟨(ad161.add ((t157).toNat * 9)).block,(ad161.add ((t157).toNat * 9)).off + 5,none⟩ = some (.int .i64 ((rd_T45 l1 t157).f5)) ∧ w'.cell? ⟨(ad161.add ((t157).toNat * 9)).block,(ad161.add ((t157).toNat * 9)).off + 6,none⟩ = some (.int .i64 ((rd_T45 l1 t157).f6)) ∧ w'.cell? ⟨(ad161.add ((t157).toNat * 9)).block,(ad161.add ((t157).toNat * 9)).off + 7,none⟩ = some (.int .i64 ((rd_T45 l1 t157).f7)) ∧ w'.cell? ⟨(ad161.add ((t157).toNat * 9)).block,(ad161.add ((t157).toNat * 9)).off + 8,none⟩ = some (.int .i64 ((rd_T45 l1 t157).f8))) (ds := []) #[false,false,false,false,false,false,false,false,false,false,false,false,false,false,false,false,false] (by kernel_rfl) rfl rfl ⟨(blk_cell BK156.out 0).trans rfl,(blk_cell BK156.out 1).trans rfl,((HB.out.cell (World.block_lt_of_cell? w _ hw161_0)).trans hw161_0),((HB.out.cell (World.block_lt_of_cell? w _ hw161_1)).trans hw161_1),((HB.out.cell (World.block_lt_of_cell? w _ hw161_2)).trans hw161_2),((HB.out.cell (World.block_lt_of_cell? w _ hw161_3)).trans hw161_3),((HB.out.cell (World.block_lt_of_cell? w _ hw161_4)).trans hw161_4),((HB.out.cell (World.block_lt_of_cell? w _ hw161_5)).trans hw161_5),((HB.out.cell (World.block_lt_of_cell? w _ hw161_6)).trans hw161_6),((HB.out.cell (World.block_lt_of_cell? w _ hw161_7)).trans hw161_7),((HB.out.cell (World.block_lt_of_cell? w _ hw161_8)).trans hw161_8)⟩ (fun hHeld => ?_);refine with_tabW allot_Back.tab7 allot_Back.bits7 (fun HT_ HW_ => ?_)
               generalize wc.drew = w36 at HO_7 BK151 BK156 HB hx161_0 hx161_1 hx161_2 hx161_3 hx161_4 hx161_5 hx161_6 hx161_7 hx161_8 hHeld ⊢
               refine pure_ (i := 0) (N := some 40) (v := ?_) (a' := ?_) #[true,false,false,false,false,false,false,false,false,false,false,false,false,false,false,false,false] rfl rfl (any_of HT_.out (by kernel_rfl)) (fun _ _ _ h => h) (Or.inl ⟨by rfl,?_⟩) ?_ ?_
               rotate_left
               ·intro w'
                go_simp
                with_reducible rfl
               rotate_left
               ·simp only [Act.put,List.setIfInBounds_toArray,List.set_cons_zero,List.set_cons_succ,i64_w,i32_w]
                rfl
               refine pure_ (i := 3) (N := some 43) (v := ?_) (a' := ?_) #[true,false,false,true,false,false,false,false,false,false,false,false,false,false,false,false,false] rfl rfl (any_of HT_.out (by kernel_rfl)) (fun _ _ _ h => h) (Or.inl ⟨by rfl,?_⟩) ?_ ?_
               rotate_left
               ·intro w'
                go_simp
                with_reducible rfl
               rotate_left
               ·simp only [Act.put,List.setIfInBounds_toArray,List.set_cons_zero,List.set_cons_succ,i64_w,i32_w]
                rfl
               refine pure_ (i := 4) (N := some 44) (v := ?_) (a' := ?_) #[true,false,false,true,true,false,false,false,false,false,false,false,false,false,false,false,false] rfl rfl (any_of HT_.out (by kernel_rfl)) (fun _ _ _ h => h) (Or.inl ⟨by rfl,?_⟩) ?_ ?_
               rotate_left
               ·intro w'
                go_simp
                with_reducible rfl
               rotate_left
               ·simp only [Act.put,List.setIfInBounds_toArray,List.set_cons_zero,List.set_cons_succ,i64_w,i32_w]
                rfl
               refine pure_ (i := 5) (N := some 45) (v := ?_) (a' := ?_) #[true,false,false,true,true,true,false,false,false,false,false,false,false,false,false,false,false] rfl rfl (any_of HT_.out (by kernel_rfl)) (fun _ _ _ h => h) (Or.inl ⟨by rfl,?_⟩) ?_ ?_
               rotate_left
               ·intro w'
                go_simp
                with_reducible rfl
               rotate_left
               ·simp only [Act.put,List.setIfInBounds_toArray,List.set_cons_zero,List.set_cons_succ,i64_w,i32_w]
                rfl
               refine pure_ (i := 6) (N := some 46) (v := ?_) (a' := ?_) #[true,false,false,true,true,true,true,false,false,false,false,false,false,false,false,false,false] rfl rfl (any_of HT_.out (by kernel_rfl)) (fun _ _ _ h => h) (Or.inl ⟨by rfl,?_⟩) ?_ ?_
               rotate_left
               ·intro w'
                go_simp
                with_reducible rfl
               rotate_left
               ·simp only [Act.put,List.setIfInBounds_toArray,List.set_cons_zero,List.set_cons_succ,i64_w,i32_w]
                rfl
               refine take_ (i := 1) (N := some 41) (v := ?_) (a' := ?_) #[true,true,false,true,true,true,true,false,false,false,false,false,false,false,false,false,false] rfl rfl (take_ofW HT_.out HW_.out (by kernel_rfl)) (fun _ _ _ h => h) (Or.inl ⟨by rfl,?_⟩) hHeld ?_ ?_
               rotate_left
               ·rintro w' ⟨s0,s1,s2,s3,s4,s5,s6,s7,s8,s9,s10⟩
                go_simp
                with_reducible rfl
               rotate_left
               ·simp only [Act.put,List.setIfInBounds_toArray,List.set_cons_zero,List.set_cons_succ,i64_w,i32_w]
                rfl
               refine take_ (i := 7) (N := some 47) (v := ?_) (a' := ?_) #[true,true,false,true,true,true,true,true,false,false,false,false,false,false,false,false,false] rfl rfl (take_ofW HT_.out HW_.out (by kernel_rfl)) (fun _ _ _ h => h) (Or.inl ⟨by rfl,?_⟩) hHeld ?_ ?_
               rotate_left
               ·rintro w' ⟨s0,s1,s2,s3,s4,s5,s6,s7,s8,s9,s10⟩
                go_simp
                with_reducible rfl
               rotate_left
               ·simp only [Act.put,List.setIfInBounds_toArray,List.set_cons_zero,List.set_cons_succ,i64_w,i32_w]
                rfl
               refine one_ (i := 2) (N := some 42) #[true,true,true,true,true,true,true,true,false,false,false,false,false,false,false,false,false] rfl rfl (one_of HT_.out (by kernel_rfl)) (by decide) (fun K hK => ?_)
               refine goes_ Try.func28 (by kernel_rfl) rfl #[.int .i64 ((rd_T47 l2 x20_1).f1),.int .i64 0,.int .i64 1125899906842624] (by rfl) rfl rfl (by (try simp only [List.map_toArray,List.map_cons,List.map_nil]);first | done | rfl | (simp only [List.length_drop,List.length_take];rfl)) ?_
               with_reducible refine (exact_Clamp.calls ((rd_T47 l2 x20_1).f1) 0 1125899906842624 t160 _ A27.out).mono ?_
               rintro e w' ⟨rfl,⟨nd,rfl⟩⟩
               refine ⟨_,rfl,?_⟩
               refine hK.out _ _ ⟨(blk_cell BK156.out 0).trans rfl,(blk_cell BK156.out 1).trans rfl,((HB.out.cell (World.block_lt_of_cell? w _ hw161_0)).trans hw161_0),((HB.out.cell (World.block_lt_of_cell? w _ hw161_1)).trans hw161_1),((HB.out.cell (World.block_lt_of_cell? w _ hw161_2)).trans hw161_2),((HB.out.cell (World.block_lt_of_cell? w _ hw161_3)).trans hw161_3),((HB.out.cell (World.block_lt_of_cell? w _ hw161_4)).trans hw161_4),((HB.out.cell (World.block_lt_of_cell? w _ hw161_5)).trans hw161_5),((HB.out.cell (World.block_lt_of_cell? w _ hw161_6)).trans hw161_6),((HB.out.cell (World.block_lt_of_cell? w _ hw161_7)).trans hw161_7),((HB.out.cell (World.block_lt_of_cell? w _ hw161_8)).trans hw161_8)⟩ (fun hHeld => ?_)
               clear hK K
               refine norm_ (a' := ?_) ?_ ?_
               rotate_left
               ·show Act.put _ (some 42) _ = _
                simp only [Act.put,List.setIfInBounds_toArray,List.set_cons_zero,List.set_cons_succ,i64_w,i32_w]
                rfl
               refine one_ (i := 8) (N := some 48) #[true,true,true,true,true,true,true,true,true,false,false,false,false,false,false,false,false] rfl rfl (one_of HT_.out (by kernel_rfl)) (by decide) (fun K hK => ?_)
               refine goes_ Try.func28 (by kernel_rfl) rfl #[.int .i64 ((rd_T45 l1 t157).f7),.int .i64 0,.int .i64 1000] (by rfl) rfl rfl (by (try simp only [List.map_toArray,List.map_cons,List.map_nil]);first | done | rfl | (simp only [List.length_drop,List.length_take];rfl)) ?_
               with_reducible refine (exact_Clamp.calls ((rd_T45 l1 t157).f7) 0 1000 t162 _ A30.out).mono ?_
               rintro e w' ⟨rfl,⟨nd,rfl⟩⟩
               refine ⟨_,rfl,?_⟩
               refine hK.out _ _ ⟨(blk_cell BK156.out 0).trans rfl,(blk_cell BK156.out 1).trans rfl,((HB.out.cell (World.block_lt_of_cell? w _ hw161_0)).trans hw161_0),((HB.out.cell (World.block_lt_of_cell? w _ hw161_1)).trans hw161_1),((HB.out.cell (World.block_lt_of_cell? w _ hw161_2)).trans hw161_2),((HB.out.cell (World.block_lt_of_cell? w _ hw161_3)).trans hw161_3),((HB.out.cell (World.block_lt_of_cell? w _ hw161_4)).trans hw161_4),((HB.out.cell (World.block_lt_of_cell? w _ hw161_5)).trans hw161_5),((HB.out.cell (World.block_lt_of_cell? w _ hw161_6)).trans hw161_6),((HB.out.cell (World.block_lt_of_cell? w _ hw161_7)).trans hw161_7),((HB.out.cell (World.block_lt_of_cell? w _ hw161_8)).trans hw161_8)⟩ (fun hHeld => ?_)
               clear hK K
               refine norm_ (a' := ?_) ?_ ?_
               rotate_left
               ·show Act.put _ (some 48) _ = _
                simp only [Act.put,List.setIfInBounds_toArray,List.set_cons_zero,List.set_cons_succ,i64_w,i32_w]
                rfl
               refine one_ (i := 9) (N := some 49) #[true,true,true,true,true,true,true,true,true,true,false,false,false,false,false,false,false] rfl rfl (one_of HT_.out (by kernel_rfl)) (by decide) (fun K hK => ?_)
               refine goes_ Try.func27 (by kernel_rfl) rfl #[.int .i64 t160,.int .i64 t162,.int .i64 1000] (by rfl) rfl rfl (by (try simp only [List.map_toArray,List.map_cons,List.map_nil]);first | done | rfl | (simp only [List.length_drop,List.length_take];rfl)) ?_
               with_reducible refine (exact_Scale.calls kj13 t160 t162 1000 t163 t164 t165 _ A31.out).mono ?_
               rintro e w' ⟨rfl,⟨nd,rfl⟩⟩
               refine ⟨_,rfl,?_⟩
               refine hK.out _ _ ⟨(blk_cell BK156.out 0).trans rfl,(blk_cell BK156.out 1).trans rfl,((HB.out.cell (World.block_lt_of_cell? w _ hw161_0)).trans hw161_0),((HB.out.cell (World.block_lt_of_cell? w _ hw161_1)).trans hw161_1),((HB.out.cell (World.block_lt_of_cell? w _ hw161_2)).trans hw161_2),((HB.out.cell (World.block_lt_of_cell? w _ hw161_3)).trans hw161_3),((HB.out.cell (World.block_lt_of_cell? w _ hw161_4)).trans hw161_4),((HB.out.cell (World.block_lt_of_cell? w _ hw161_5)).trans hw161_5),((HB.out.cell (World.block_lt_of_cell? w _ hw161_6)).trans hw161_6),((HB.out.cell (World.block_lt_of_cell? w _ hw161_7)).trans hw161_7),((HB.out.cell (World.block_lt_of_cell? w _ hw161_8)).trans hw161_8)⟩ (fun hHeld => ?_)
               clear hK K
               refine norm_ (a' := ?_) ?_ ?_
               rotate_left
               ·show Act.put _ (some 49) _ = _
                simp only [Act.put,List.setIfInBounds_toArray,List.set_cons_zero,List.set_cons_succ,i64_w,i32_w]
                rfl
               refine pure_ (i := 10) (N := some 39) (v := ?_) (a' := ?_) #[true,true,true,true,true,true,true,true,true,true,true,false,false,false,false,false,false] rfl rfl (any_of HT_.out (by kernel_rfl)) (fun _ _ _ h => h) (Or.inl ⟨by rfl,?_⟩) ?_ ?_
               rotate_left
               ·intro w'
                go_simp
                with_reducible rfl
               rotate_left
               ·simp only [Act.put,List.setIfInBounds_toArray,List.set_cons_zero,List.set_cons_succ,i64_w,i32_w]
                rfl
               refine pure_ (i := 11) (N := some 50) (v := ?_) (a' := ?_) #[true,true,true,true,true,true,true,true,true,true,true,true,false,false,false,false,false] rfl rfl (any_of HT_.out (by kernel_rfl)) (fun _ _ _ h => h) (Or.inl ⟨by rfl,?_⟩) ?_ ?_
               rotate_left
               ·intro w'
                go_simp
                with_reducible rfl
               rotate_left
               ·simp only [Act.put,List.setIfInBounds_toArray,List.set_cons_zero,List.set_cons_succ,i64_w,i32_w]
                rfl
               refine pure_ (i := 12) (N := some 51) (v := ?_) (a' := ?_) #[true,true,true,true,true,true,true,true,true,true,true,true,true,false,false,false,false] rfl rfl (any_of HT_.out (by kernel_rfl)) (fun _ _ _ h => h) (Or.inl ⟨by rfl,?_⟩) ?_ ?_
               rotate_left
               ·intro w'
                go_simp
                with_reducible rfl
               rotate_left
               ·simp only [Act.put,List.setIfInBounds_toArray,List.set_cons_zero,List.set_cons_succ,i64_w,i32_w]
                rfl
               refine pure_ (i := 13) (N := some 52) (v := ?_) (a' := ?_) #[true,true,true,true,true,true,true,true,true,true,true,true,true,true,false,false,false] rfl rfl (any_of HT_.out (by kernel_rfl)) (fun _ _ _ h => h) (Or.inl ⟨by rfl,?_⟩) ?_ ?_
               rotate_left
               ·intro w'
                go_simp
                with_reducible rfl
               rotate_left
               ·simp only [Act.put,List.setIfInBounds_toArray,List.set_cons_zero,List.set_cons_succ,i64_w,i32_w]
                rfl
               refine pure_ (i := 14) (N := some 11) (v := ?_) (a' := ?_) #[true,true,true,true,true,true,true,true,true,true,true,true,true,true,true,false,false] rfl rfl (any_of HT_.out (by kernel_rfl)) (fun _ _ _ h => h) (Or.inl ⟨by rfl,?_⟩) ?_ ?_
               rotate_left
               ·intro w'
                go_simp
                with_reducible rfl
               rotate_left
               ·simp only [Act.put,List.setIfInBounds_toArray,List.set_cons_zero,List.set_cons_succ,i64_w,i32_w]
                rfl
               refine pure_ (i := 15) (N := some 12) (v := ?_) (a' := ?_) #[true,true,true,true,true,true,true,true,true,true,true,true,true,true,true,true,false] rfl rfl (any_of HT_.out (by kernel_rfl)) (fun _ _ _ h => h) (Or.inl ⟨by rfl,?_⟩) ?_ ?_
               rotate_left
               ·intro w'
                go_simp
                with_reducible rfl
               rotate_left
               ·simp only [Act.put,List.setIfInBounds_toArray,List.set_cons_zero,List.set_cons_succ,i64_w,i32_w]
                rfl
               refine pure_ (i := 16) (N := some 13) (v := ?_) (a' := ?_) #[true,true,true,true,true,true,true,true,true,true,true,true,true,true,true,true,true] rfl rfl (any_of HT_.out (by kernel_rfl)) (fun _ _ _ h => h) (Or.inl ⟨by rfl,?_⟩) ?_ ?_
               rotate_left
               ·intro w'
                go_simp
                with_reducible rfl
               rotate_left
               ·simp only [Act.put,List.setIfInBounds_toArray,List.set_cons_zero,List.set_cons_succ,i64_w,i32_w]
                rfl
               refine done_ (done_of HT_.out (by kernel_rfl)) ?_
               try go_wp2
               (repeat (rw [drewN_self w36];generalize hq_ : World.drewN w36 _ = w36;have n0_ : Aside0 (Kd.R (Kd.int .i64) 3 w36 w.heap.size (fun _ => True) v153 x7_1) := ⟨by rw [← hq_];exact (by (with_reducible repeat (first | apply Kd.R_alloc | apply Kd.R_drewN | apply Kd.R_drew));exact HO_7.out)⟩;have n1_ : Aside0 (w36.heap[gb151]? = some (.cells #[.string a0_0,.slice A0_1 l0_1.length c0_1,.int .i64 a0_2,.slice A0_3 l0_3.length c0_3,.slice A0_4 l0_4.length c0_4,.slice A0_5 l0_5.length c0_5,.slice A0_6 l0_6.length c0_6,.slice A0_7 l0_7.length c0_7,.slice A0_8 l0_8.length c0_8,.slice A0_9 l0_9.length c0_9,.int .i64 a0_10] 31 (0,0))) := ⟨by rw [← hq_];exact (by (with_reducible repeat (first | refine blk_drewN ?_ _ | refine blk_drew ?_ | refine blk_alloc ?_ _));exact BK151.out)⟩;have n2_ : Aside0 (w36.heap[gb156]? = some (.cells #[.int .i64 ((rd_T47 l2 x20_1).f0),.int .i64 ((rd_T47 l2 x20_1).f1)] 47 (0,0))) := ⟨by rw [← hq_];exact (by (with_reducible repeat (first | refine blk_drewN ?_ _ | refine blk_drew ?_ | refine blk_alloc ?_ _));exact BK156.out)⟩;have n3_ : Aside0 (Below w.heap.size w w36) := ⟨by rw [← hq_];exact (by repeat (first | (with_reducible first | exact HB.out | apply below_alloc | apply pw_below_drewN | apply below_drew1 | refine below_set ?_ GE151.out | refine below_set ?_ GE156.out) | exact HB.out))⟩;clear HO_7 BK151 BK156 HB hq_;have HO_7 := n0_;have BK151 := n1_;have BK156 := n2_;have HB := n3_;clear n0_ n1_ n2_ n3_))
               have n0_ := Aside0.mk (Kd.R_drew HO_7.out)
               have n1_ := Aside0.mk (blk_drew BK151.out)
               have n2_ := Aside0.mk (blk_drew BK156.out)
               have n3_ := Aside0.mk (below_drew1 HB.out)
               clear HO_7
               clear BK151
               clear BK156
               clear HB
               have HO_7 := n0_
               have BK151 := n1_
               have BK156 := n2_
               have HB := n3_
               clear n0_ n1_ n2_ n3_
               have p166 : 0 ≤ (t157 : Int) := of_decide_eq_true (by first | (with_reducible assumption) | assumption)
               have q166 : t157 < (l1.length : Int) := of_decide_eq_true (by first | (with_reducible assumption) | assumption)
               obtain ⟨ad166,e166,hx166_0,hx166_1,hx166_2,hx166_3,hx166_4,hx166_5,hx166_6,hx166_7,hx166_8⟩ := at_T45 HR1.out t157 p166 q166
               have hw166_8 := hx166_8
               have hw166_7 := hx166_7
               have hw166_6 := hx166_6
               have hw166_5 := hx166_5
               have hw166_4 := hx166_4
               have hw166_3 := hx166_3
               have hw166_2 := hx166_2
               have hw166_1 := hx166_1
               have hw166_0 := hx166_0
               obtain rfl : ad161 = ad166 := (by injection e166)
               replace hx166_0 := (HB.out.cell (World.block_lt_of_cell? w _ hx166_0)).trans hx166_0
               replace hx166_1 := (HB.out.cell (World.block_lt_of_cell? w _ hx166_1)).trans hx166_1
               replace hx166_2 := (HB.out.cell (World.block_lt_of_cell? w _ hx166_2)).trans hx166_2
               replace hx166_3 := (HB.out.cell (World.block_lt_of_cell? w _ hx166_3)).trans hx166_3
               replace hx166_4 := (HB.out.cell (World.block_lt_of_cell? w _ hx166_4)).trans hx166_4
               replace hx166_5 := (HB.out.cell (World.block_lt_of_cell? w _ hx166_5)).trans hx166_5
               replace hx166_6 := (HB.out.cell (World.block_lt_of_cell? w _ hx166_6)).trans hx166_6
               replace hx166_7 := (HB.out.cell (World.block_lt_of_cell? w _ hx166_7)).trans hx166_7
               replace hx166_8 := (HB.out.cell (World.block_lt_of_cell? w _ hx166_8)).trans hx166_8
               replace p166 := eq_true p166
               replace q166 := eq_true q166
               have p167 : 0 ≤ (t157 : Int) := of_decide_eq_true (by first | (with_reducible assumption) | assumption)
               have q167 : t157 < (l1.length : Int) := of_decide_eq_true (by first | (with_reducible assumption) | assumption)
               obtain ⟨ad167,e167,hx167_0,hx167_1,hx167_2,hx167_3,hx167_4,hx167_5,hx167_6,hx167_7,hx167_8⟩ := at_T45 HR1.out t157 p167 q167
               have hw167_8 := hx167_8
               have hw167_7 := hx167_7
               have hw167_6 := hx167_6
               have hw167_5 := hx167_5
               have hw167_4 := hx167_4
               have hw167_3 := hx167_3
               have hw167_2 := hx167_2
               have hw167_1 := hx167_1
               have hw167_0 := hx167_0
               obtain rfl : ad161 = ad167 := (by injection e167)
               replace hx167_0 := (HB.out.cell (World.block_lt_of_cell? w _ hx167_0)).trans hx167_0
               replace hx167_1 := (HB.out.cell (World.block_lt_of_cell? w _ hx167_1)).trans hx167_1
               replace hx167_2 := (HB.out.cell (World.block_lt_of_cell? w _ hx167_2)).trans hx167_2
               replace hx167_3 := (HB.out.cell (World.block_lt_of_cell? w _ hx167_3)).trans hx167_3
               replace hx167_4 := (HB.out.cell (World.block_lt_of_cell? w _ hx167_4)).trans hx167_4
               replace hx167_5 := (HB.out.cell (World.block_lt_of_cell? w _ hx167_5)).trans hx167_5
               replace hx167_6 := (HB.out.cell (World.block_lt_of_cell? w _ hx167_6)).trans hx167_6
               replace hx167_7 := (HB.out.cell (World.block_lt_of_cell? w _ hx167_7)).trans hx167_7
               replace hx167_8 := (HB.out.cell (World.block_lt_of_cell? w _ hx167_8)).trans hx167_8
               replace p167 := eq_true p167
               replace q167 := eq_true q167
               obtain ⟨Ao38,co38,eo38⟩ := Kd.R_slice HO_7.out
               (first | subst eo38 | (injection eo38 with f1_ f2_ f3_;have f4_ := f1_.symm;have f5_ := f3_.symm;clear f1_ f2_ f3_;subst f4_;subst f5_))
               have p168 : 0 ≤ (((rd_T45 l1 t157).f8) : Int) := of_decide_eq_true (by first | (with_reducible assumption) | assumption)
               have q168 : ((rd_T45 l1 t157).f8) < (x7_1.length : Int) := of_decide_eq_true (by first | (with_reducible assumption) | assumption)
               obtain ⟨ad168,e168,hx168_0⟩ := Kd.at_int (Kd.R_reads' HO_7.out).2.2 ((rd_T45 l1 t157).f8) p168 q168
               cases e168
               replace p168 := eq_true p168
               replace q168 := eq_true q168
               refine start_ (n := 18) (S := fun w' => w'.cell? (ad161.add ((t157).toNat * 9)) = some (.int .i64 ((rd_T45 l1 t157).f0)) ∧ w'.cell? ⟨(ad161.add ((t157).toNat * 9)).block,(ad161.add ((t157).toNat * 9)).off + 1,none⟩ = some (.int .i64 ((rd_T45 l1 t157).f1)) ∧ w'.cell? ⟨(ad161.add ((t157).toNat * 9)).block,(ad161.add ((t157).toNat * 9)).off + 2,none⟩ = some (.int .i64 ((rd_T45 l1 t157).f2)) ∧ w'.cell? ⟨(ad161.add ((t157).toNat * 9)).block,(ad161.add ((t157).toNat * 9)).off + 3,none⟩ = some (.int .i64 ((rd_T45 l1 t157).f3)) ∧ w'.cell? ⟨(ad161.add ((t157).toNat * 9)).block,(ad161.add ((t157).toNat * 9)).off + 4,none⟩ = some (.int .i64 ((rd_T45 l1 t157).f4)) ∧ w'.cell? ⟨(ad161.add ((t157).toNat * 9)).block,(ad161.add ((t157).toNat * 9)).off + 5,none⟩ = some (.int .i64 ((rd_T45 l1 t157).f5)) ∧ w'.cell? ⟨(ad161.add ((t157).toNat * 9)).block,(ad161.add ((t157).toNat * 9)).off + 6,none⟩ = some (.int .i64 ((rd_T45 l1 t157).f6)) ∧ w'.cell? ⟨(ad161.add ((t157).toNat * 9)).block,(ad161.add ((t157).toNat * 9)).off + 7,none⟩ = some (.int .i64 ((rd_T45 l1 t157).f7)) ∧ w'.cell? ⟨(ad161.add ((t157).toNat * 9)).block,(ad161.add ((t157).toNat * 9)).off + 8,none⟩ = some (.int .i64 ((rd_T45 l1 t157).f8)) ∧ w'.cell? (ad161.add ((t157).toNat * 9)) = some (.int .i64 ((rd_T45 l1 t157).f0)) ∧ w'.cell? ⟨(ad161.add ((t157).toNat * 9)).block,(ad161.add ((t157).toNat * 9)).off + 1,none⟩ = some (.int .i64 ((rd_T45 l1 t157).f1)) ∧ w'.cell? ⟨(ad161.add ((t157).toNat * 9)).block,(ad161.add ((t157).toNat * 9)).off + 2,none⟩ = some (.int .i64 ((rd_T45 l1 t157).f2)) ∧ w'.cell? ⟨(ad161.add ((t157).toNat * 9)).block,(ad161.add ((t157).toNat * 9)).off + 3,none⟩ = some (.int .i64 ((rd_T45 l1 t157).f3)) ∧ w'.cell? ⟨(ad161.add ((t157).toNat * 9)).block,(ad161.add ((t157).toNat * 9)).off + 4,none⟩ = some (.int .i64 ((rd_T45 l1 t157).f4)) ∧ w'.cell? ⟨(ad161.add ((t157).toNat * 9)).block,(ad161.add ((t157).toNat * 9)).off + 5,none⟩ = some (.int .i64 ((rd_T45 l1 t157).f5)) ∧ w'.cell? ⟨(ad161.add ((t157).toNat * 9)).block,(ad161.add ((t157).toNat * 9)).off + 6,none⟩ = some (.int .i64 ((rd_T45 l1 t157).f6)) ∧ w'.cell? ⟨(ad161.add ((t157).toNat * 9)).block,(ad161.add ((t157).toNat * 9)).off + 7,none⟩ = some (.int .i64 ((rd_T45 l1 t157).f7)) ∧ w'.cell? ⟨(ad161.add ((t157).toNat * 9)).block,(ad161.add ((t157).toNat * 9)).off + 8,none⟩ = some (.int .i64 ((rd_T45 l1 t157).f8)) ∧ w'.cell? (ad168.add (((rd_T45 l1 t157).f8)).toNat) = some (.int .i64 (rd x7_1 ((rd_T45 l1 t157).f8)))) (ds := [17]) #[false,false,false,false,false,false,false,false,false,false,false,false,false,false,false,false,false,false] (by kernel_rfl) rfl rfl ⟨((HB.out.cell (World.block_lt_of_cell? w _ hw166_0)).trans hw166_0),((HB.out.cell (World.block_lt_of_cell? w _ hw166_1)).trans hw166_1),((HB.out.cell (World.block_lt_of_cell? w _ hw166_2)).trans hw166_2),((HB.out.cell (World.block_lt_of_cell? w _ hw166_3)).trans hw166_3),((HB.out.cell (World.block_lt_of_cell? w _ hw166_4)).trans hw166_4),((HB.out.cell (World.block_lt_of_cell? w _ hw166_5)).trans hw166_5),((HB.out.cell (World.block_lt_of_cell? w _ hw166_6)).trans hw166_6),((HB.out.cell (World.block_lt_of_cell? w _ hw166_7)).trans hw166_7),((HB.out.cell (World.block_lt_of_cell? w _ hw166_8)).trans hw166_8),((HB.out.cell (World.block_lt_of_cell? w _ hw167_0)).trans hw167_0),((HB.out.cell (World.block_lt_of_cell? w _ hw167_1)).trans hw167_1),((HB.out.cell (World.block_lt_of_cell? w _ hw167_2)).trans hw167_2),((HB.out.cell (World.block_lt_of_cell? w _ hw167_3)).trans hw167_3),((HB.out.cell (World.block_lt_of_cell? w _ hw167_4)).trans hw167_4),((HB.out.cell (World.block_lt_of_cell? w _ hw167_5)).trans hw167_5),((HB.out.cell (World.block_lt_of_cell? w _ hw167_6)).trans hw167_6),((HB.out.cell (World.block_lt_of_cell? w _ hw167_7)).trans hw167_7),((HB.out.cell (World.block_lt_of_cell? w _ hw167_8)).trans hw167_8),hx168_0⟩ (fun hHeld => ?_);refine with_tabW allot_Back.tab8 allot_Back.bits8 (fun HT_ HW_ => ?_)
               generalize w36.drew = w37 at HO_7 BK151 BK156 HB hx166_0 hx166_1 hx166_2 hx166_3 hx166_4 hx166_5 hx166_6 hx166_7 hx166_8 hx167_0 hx167_1 hx167_2 hx167_3 hx167_4 hx167_5 hx167_6 hx167_7 hx167_8 hx168_0 hHeld ⊢
               refine pure_ (i := 0) (N := some 53) (v := ?_) (a' := ?_) #[true,false,false,false,false,false,false,false,false,false,false,false,false,false,false,false,false,false] rfl rfl (any_of HT_.out (by kernel_rfl)) (fun _ _ _ h => h) (Or.inl ⟨by rfl,?_⟩) ?_ ?_
               rotate_left
               ·intro w'
                go_simp
                with_reducible rfl
               rotate_left
               ·simp only [Act.put,List.setIfInBounds_toArray,List.set_cons_zero,List.set_cons_succ,i64_w,i32_w]
                rfl
               refine pure_ (i := 1) (N := some 54) (v := ?_) (a' := ?_) #[true,true,false,false,false,false,false,false,false,false,false,false,false,false,false,false,false,false] rfl rfl (any_of HT_.out (by kernel_rfl)) (fun _ _ _ h => h) (Or.inl ⟨by rfl,?_⟩) ?_ ?_
               rotate_left
               ·intro w'
                go_simp
                with_reducible rfl
               rotate_left
               ·simp only [Act.put,List.setIfInBounds_toArray,List.set_cons_zero,List.set_cons_succ,i64_w,i32_w]
                rfl
               refine pure_ (i := 2) (N := some 55) (v := ?_) (a' := ?_) #[true,true,true,false,false,false,false,false,false,false,false,false,false,false,false,false,false,false] rfl rfl (any_of HT_.out (by kernel_rfl)) (fun _ _ _ h => h) (Or.inl ⟨by rfl,?_⟩) ?_ ?_
               rotate_left
               ·intro w'
                go_simp
                with_reducible rfl
               rotate_left
               ·simp only [Act.put,List.setIfInBounds_toArray,List.set_cons_zero,List.set_cons_succ,i64_w,i32_w]
                rfl
               refine pure_ (i := 3) (N := some 56) (v := ?_) (a' := ?_) #[true,true,true,true,false,false,false,false,false,false,false,false,false,false,false,false,false,false] rfl rfl (any_of HT_.out (by kernel_rfl)) (fun _ _ _ h => h) (Or.inl ⟨by rfl,?_⟩) ?_ ?_
               rotate_left
               ·intro w'
                go_simp
                with_reducible rfl
               rotate_left
               ·simp only [Act.put,List.setIfInBounds_toArray,List.set_cons_zero,List.set_cons_succ,i64_w,i32_w]
                rfl
               refine pure_ (i := 4) (N := some 57) (v := ?_) (a' := ?_) #[true,true,true,true,true,false,false,false,false,false,false,false,false,false,false,false,false,false] rfl rfl (any_of HT_.out (by kernel_rfl)) (fun _ _ _ h => h) (Or.inl ⟨by rfl,?_⟩) ?_ ?_
               rotate_left
               ·intro w'
                go_simp
                with_reducible rfl
               rotate_left
               ·simp only [Act.put,List.setIfInBounds_toArray,List.set_cons_zero,List.set_cons_succ,i64_w,i32_w]
                rfl
               refine pure_ (i := 6) (N := some 59) (v := ?_) (a' := ?_) #[true,true,true,true,true,false,true,false,false,false,false,false,false,false,false,false,false,false] rfl rfl (any_of HT_.out (by kernel_rfl)) (fun _ _ _ h => h) (Or.inl ⟨by rfl,?_⟩) ?_ ?_
               rotate_left
               ·intro w'
                go_simp
                with_reducible rfl
               rotate_left
               ·simp only [Act.put,List.setIfInBounds_toArray,List.set_cons_zero,List.set_cons_succ,i64_w,i32_w]
                rfl
               refine pure_ (i := 7) (N := some 60) (v := ?_) (a' := ?_) #[true,true,true,true,true,false,true,true,false,false,false,false,false,false,false,false,false,false] rfl rfl (any_of HT_.out (by kernel_rfl)) (fun _ _ _ h => h) (Or.inl ⟨by rfl,?_⟩) ?_ ?_
               rotate_left
               ·intro w'
                go_simp
                with_reducible rfl
               rotate_left
               ·simp only [Act.put,List.setIfInBounds_toArray,List.set_cons_zero,List.set_cons_succ,i64_w,i32_w]
                rfl
               refine pure_ (i := 8) (N := some 61) (v := ?_) (a' := ?_) #[true,true,true,true,true,false,true,true,true,false,false,false,false,false,false,false,false,false] rfl rfl (any_of HT_.out (by kernel_rfl)) (fun _ _ _ h => h) (Or.inl ⟨by rfl,?_⟩) ?_ ?_
               rotate_left
               ·intro w'
                go_simp
                with_reducible rfl
               rotate_left
               ·simp only [Act.put,List.setIfInBounds_toArray,List.set_cons_zero,List.set_cons_succ,i64_w,i32_w]
                rfl
               refine pure_ (i := 9) (N := some 62) (v := ?_) (a' := ?_) #[true,true,true,true,true,false,true,true,true,true,false,false,false,false,false,false,false,false] rfl rfl (any_of HT_.out (by kernel_rfl)) (fun _ _ _ h => h) (Or.inl ⟨by rfl,?_⟩) ?_ ?_
               rotate_left
               ·intro w'
                go_simp
                with_reducible rfl
               rotate_left
               ·simp only [Act.put,List.setIfInBounds_toArray,List.set_cons_zero,List.set_cons_succ,i64_w,i32_w]
                rfl
               refine pure_ (i := 10) (N := some 63) (v := ?_) (a' := ?_) #[true,true,true,true,true,false,true,true,true,true,true,false,false,false,false,false,false,false] rfl rfl (any_of HT_.out (by kernel_rfl)) (fun _ _ _ h => h) (Or.inl ⟨by rfl,?_⟩) ?_ ?_
               rotate_left
               ·intro w'
                go_simp
                with_reducible rfl
               rotate_left
               ·simp only [Act.put,List.setIfInBounds_toArray,List.set_cons_zero,List.set_cons_succ,i64_w,i32_w]
                rfl
               refine pure_ (i := 14) (N := some 67) (v := ?_) (a' := ?_) #[true,true,true,true,true,false,true,true,true,true,true,false,false,false,true,false,false,false] rfl rfl (any_of HT_.out (by kernel_rfl)) (fun _ _ _ h => h) (Or.inl ⟨by rfl,?_⟩) ?_ ?_
               rotate_left
               ·intro w'
                go_simp
                with_reducible rfl
               rotate_left
               ·simp only [Act.put,List.setIfInBounds_toArray,List.set_cons_zero,List.set_cons_succ,i64_w,i32_w]
                rfl
               refine take_ (i := 5) (N := some 58) (v := ?_) (a' := ?_) #[true,true,true,true,true,true,true,true,true,true,true,false,false,false,true,false,false,false] rfl rfl (take_ofW HT_.out HW_.out (by kernel_rfl)) (fun _ _ _ h => h) (Or.inl ⟨by rfl,?_⟩) hHeld ?_ ?_
               rotate_left
               ·rintro w' ⟨s0,s1,s2,s3,s4,s5,s6,s7,s8,s9,s10,s11,s12,s13,s14,s15,s16,s17,s18⟩
                go_simp
                with_reducible rfl
               rotate_left
               ·simp only [Act.put,List.setIfInBounds_toArray,List.set_cons_zero,List.set_cons_succ,i64_w,i32_w]
                rfl
               refine take_ (i := 11) (N := some 64) (v := ?_) (a' := ?_) #[true,true,true,true,true,true,true,true,true,true,true,true,false,false,true,false,false,false] rfl rfl (take_ofW HT_.out HW_.out (by kernel_rfl)) (fun _ _ _ h => h) (Or.inl ⟨by rfl,?_⟩) hHeld ?_ ?_
               rotate_left
               ·rintro w' ⟨s0,s1,s2,s3,s4,s5,s6,s7,s8,s9,s10,s11,s12,s13,s14,s15,s16,s17,s18⟩
                go_simp
                with_reducible rfl
               rotate_left
               ·simp only [Act.put,List.setIfInBounds_toArray,List.set_cons_zero,List.set_cons_succ,i64_w,i32_w]
                rfl
               refine pure_ (i := 12) (N := some 65) (v := ?_) (a' := ?_) #[true,true,true,true,true,true,true,true,true,true,true,true,true,false,true,false,false,false] rfl rfl (any_of HT_.out (by kernel_rfl)) (fun _ _ _ h => h) (Or.inl ⟨by rfl,?_⟩) ?_ ?_
               rotate_left
               ·intro w'
                go_simp
                with_reducible rfl
               rotate_left
               ·simp only [Act.put,List.setIfInBounds_toArray,List.set_cons_zero,List.set_cons_succ,i64_w,i32_w]
                rfl
               refine take_ (i := 13) (N := some 66) (v := ?_) (a' := ?_) #[true,true,true,true,true,true,true,true,true,true,true,true,true,true,true,false,false,false] rfl rfl (take_ofW HT_.out HW_.out (by kernel_rfl)) (fun _ _ _ h => h) (Or.inl ⟨by rfl,?_⟩) hHeld ?_ ?_
               rotate_left
               ·rintro w' ⟨s0,s1,s2,s3,s4,s5,s6,s7,s8,s9,s10,s11,s12,s13,s14,s15,s16,s17,s18⟩
                go_simp
                with_reducible rfl
               rotate_left
               ·simp only [Act.put,List.setIfInBounds_toArray,List.set_cons_zero,List.set_cons_succ,i64_w,i32_w]
                rfl
               refine one_ (i := 15) (N := some 68) #[true,true,true,true,true,true,true,true,true,true,true,true,true,true,true,true,false,false] rfl rfl (one_of HT_.out (by kernel_rfl)) (by decide) (fun K hK => ?_)
               refine goes_ Try.func21 (by kernel_rfl) rfl #[.int .i64 (rd x7_1 ((rd_T45 l1 t157).f8)),.int .i64 t163] (by rfl) rfl rfl (by (try simp only [List.map_toArray,List.map_cons,List.map_nil]);first | done | rfl | (simp only [List.length_drop,List.length_take];rfl)) ?_
               with_reducible refine (exact_Add.calls (rd x7_1 ((rd_T45 l1 t157).f8)) t163 t169 _ A34.out).mono ?_
               rintro e w' ⟨rfl,⟨nd,rfl⟩⟩
               refine ⟨_,rfl,?_⟩
               have p35 : 0 ≤ (((rd_T45 l1 t157).f8) : Int) := of_decide_eq_true (by first | (with_reducible assumption) | assumption)
               have q35 : (((rd_T45 l1 t157).f8) : Int) < ((x7_1.length : Int) : Int) := of_decide_eq_true (by first | (with_reducible assumption) | assumption)
               obtain ⟨go35,co35,eo35,gb35,gl35,cl35,HG35⟩ := Kd.R_form HO_7.out (by omega)
               (first | cases eo35 | (injection eo35 with ea_ en_ ec_;(first | subst ea_ | (injection ea_ with ea_;subst ea_));subst ec_;clear en_))
               have GB35 := Aside0.mk gb35
               have GG35 := Aside0.mk HG35
               clear gb35 gl35 HG35
               (first | simp only [add_plain] at hx168_0 | skip)
               obtain ⟨hx35_0,hf35_0⟩ := Kd.R_celln 0 HO_7.out (((rd_T45 l1 t157).f8) : Int) p35 q35
               replace p35 := eq_true p35
               replace q35 := eq_true q35
               have HP39 := Kd.R_putn HO_7.out (((rd_T45 l1 t157).f8) : Int) t169
               rw [← Ny170.out] at HP39
               have HQ39 := Aside0.mk HP39
               clear HP39
               refine hK.out _ _ ⟨((HB.out.cell (World.block_lt_of_cell? w _ hw166_0)).trans hw166_0),((HB.out.cell (World.block_lt_of_cell? w _ hw166_1)).trans hw166_1),((HB.out.cell (World.block_lt_of_cell? w _ hw166_2)).trans hw166_2),((HB.out.cell (World.block_lt_of_cell? w _ hw166_3)).trans hw166_3),((HB.out.cell (World.block_lt_of_cell? w _ hw166_4)).trans hw166_4),((HB.out.cell (World.block_lt_of_cell? w _ hw166_5)).trans hw166_5),((HB.out.cell (World.block_lt_of_cell? w _ hw166_6)).trans hw166_6),((HB.out.cell (World.block_lt_of_cell? w _ hw166_7)).trans hw166_7),((HB.out.cell (World.block_lt_of_cell? w _ hw166_8)).trans hw166_8),((HB.out.cell (World.block_lt_of_cell? w _ hw167_0)).trans hw167_0),((HB.out.cell (World.block_lt_of_cell? w _ hw167_1)).trans hw167_1),((HB.out.cell (World.block_lt_of_cell? w _ hw167_2)).trans hw167_2),((HB.out.cell (World.block_lt_of_cell? w _ hw167_3)).trans hw167_3),((HB.out.cell (World.block_lt_of_cell? w _ hw167_4)).trans hw167_4),((HB.out.cell (World.block_lt_of_cell? w _ hw167_5)).trans hw167_5),((HB.out.cell (World.block_lt_of_cell? w _ hw167_6)).trans hw167_6),((HB.out.cell (World.block_lt_of_cell? w _ hw167_7)).trans hw167_7),((HB.out.cell (World.block_lt_of_cell? w _ hw167_8)).trans hw167_8),hHeld.2.2.2.2.2.2.2.2.2.2.2.2.2.2.2.2.2.2⟩ (fun hHeld => ?_)
               clear hK K
               refine norm_ (a' := ?_) ?_ ?_
               rotate_left
               ·show Act.put _ (some 68) _ = _
                simp only [Act.put,List.setIfInBounds_toArray,List.set_cons_zero,List.set_cons_succ,i64_w,i32_w]
                rfl
               refine pure_ (i := 16) (N := some 69) (v := ?_) (a' := ?_) #[true,true,true,true,true,true,true,true,true,true,true,true,true,true,true,true,true,false] rfl rfl (any_of HT_.out (by kernel_rfl)) (fun _ _ _ h => h) (Or.inl ⟨by rfl,?_⟩) ?_ ?_
               rotate_left
               ·intro w'
                go_simp
                with_reducible rfl
               rotate_left
               ·simp only [Act.put,List.setIfInBounds_toArray,List.set_cons_zero,List.set_cons_succ,i64_w,i32_w]
                rfl
               refine last_ (i := 17) (N := none) #[true,true,true,true,true,true,true,true,true,true,true,true,true,true,true,true,true,true] rfl rfl (one_of HT_.out (by kernel_rfl)) (by decide) (fun K hK => ?_)
               refine skip_ (w1 := ?_) (by rfl) rfl ?_ ?_
               rotate_left
               ·go_simp
                rfl
               refine hK.out _ _ ?_
               clear hK K
               refine done_ (done_of HT_.out (by kernel_rfl)) ?_
               try go_wp2
               go_roundg kj13
               case measure => have := HK1.out;have := HJ13.out;omega
               case rel => exact ⟨(y170),(wrap64 (x20_1 + 1)),(by first | rfl | (simp;done) | (simp [*];done)),H',⟨by have := HK1.out;have := HJ13.out;omega⟩,⟨by (with_reducible repeat (first | apply Kd.R_alloc | apply Kd.R_drewN | apply Kd.R_drew));exact HQ39.out⟩,⟨by (with_reducible repeat (first | refine blk_drewN ?_ _ | refine blk_drew ?_ | refine blk_alloc ?_ _));refine blk_far ?_ (by have h_ := Kd.R_ne HO_7.out BK151.out (by decide);intro e_;exact h_ (by rw [e_];rfl)) _;(with_reducible repeat (first | refine blk_drewN ?_ _ | refine blk_drew ?_ | refine blk_alloc ?_ _));exact BK151.out⟩,⟨by repeat (first | (with_reducible first | exact HB.out | apply below_alloc | apply pw_below_drewN | apply below_drew1 | refine below_set ?_ GB35.out | refine below_set ?_ GE151.out | refine below_set ?_ GE156.out) | exact HB.out)⟩⟩
              ·rw [if_neg c33] at H
               exact absurd H (by simp)
             ·rw [if_neg c32] at H
              exact absurd H (by simp)
            ·rw [if_neg c29] at H
             exact absurd H (by simp)
           ·rw [if_neg c28] at H
            exact absurd H (by simp)
       ·rw [if_neg c12] at H
        exact absurd H (by simp)
      ·rw [if_neg c11] at H
       exact absurd H (by simp)
     ·rw [if_neg c10] at H
      have c10b0 : decide (x20_1 < (l2.length : Int)) = false := decide_eq_false c10
      clear c10
      obtain rfl := Option.some.inj H
      go_wp2
      go_ret
      exact ⟨_,by first | rfl | (simp [errW_none,errW_some] <;> rfl) | (simp [*,errW_none,errW_some] <;> rfl),by (with_reducible repeat (first | apply Kd.R_alloc | apply Kd.R_drewN | apply Kd.R_drew));exact HO_7.out,by repeat (first | (with_reducible first | exact HB.out | apply below_alloc | apply pw_below_drewN | apply below_drew1 | refine below_set ?_ GE151.out) | exact HB.out)⟩
  ·rw [if_neg c5] at H
   exact absurd H (by simp)
 ·rw [if_neg c4] at H
  exact absurd H (by simp)

end Go.Proofs.Ythmbleephognnaa.Q
