-- written by xprint.py (this session's program over the kit's print program)
import Derived.Test.YthmbleephognnaaQx0
import Derived.Test.YthmbleephognnaaQx9
import Derived.Test.YthmbleephognnaaQx10
namespace Go.Proofs.Ythmbleephognnaa.Q
open Go.RowKit Go.Proofs.YthmbleephognnaaW.PrintWords Go.Proofs.YthmbleephognnaaW.PrintLast Go.Proofs.YthmbleephognnaaW.PrintMore
attribute [local go_sem] max2_int min2_int max_two min_two max_three min_three max_four min_four -- for this text's walks alone
set_option linter.unusedVariables false
set_option linter.unusedSimpArgs false

/-! ### bourneref37_Day: function 11 -/
mutual
def bourneref37_Day.l0 : Nat → List (S45) → List Int → List Int → Int → ByteArray → List ByteArray → Int → List (S58) → List (S98) → List (S100) → List (S102) → List (S104) → List (S106) → List Int → Int → Option ((List (S47)) × List Int)
 | 0,_,_,_,_,_,_,_,_,_,_,_,_,_,_,_ => none
 | k + 1,x1,x2,x8,x9,x236000,x236001,x236002,x236003,x236004,x236005,x236006,x236007,x236008,x236009,x236010 => if x9 < (x236003.length : Int) then ((bourneref37_There.f k x236000 x236001 x236002 x236003 x236004 x236005 x236006 x236007 x236008 x236009 x236010 x2 x9).bind fun t236 => (if x8.length < 17592186044416 then (bourneref37_Day.l0 k x1 x2 (x8 ++ [t236]) (wrap64 (x9 + 1)) x236000 x236001 x236002 x236003 x236004 x236005 x236006 x236007 x236008 x236009 x236010) else (none))) else (bourneref37_Day.l1 k x1 x8 ([] : List (S47)) 0 x236000 x236001 x236002 x236003 x236004 x236005 x236006 x236007 x236008 x236009 x236010)
def bourneref37_Day.l1 : Nat → List (S45) → List Int → List (S47) → Int → ByteArray → List ByteArray → Int → List (S58) → List (S98) → List (S100) → List (S102) → List (S104) → List (S106) → List Int → Int → Option ((List (S47)) × List Int)
 | 0,_,_,_,_,_,_,_,_,_,_,_,_,_,_,_ => none
 | k + 1,x1,x8,x10,x11,x236000,x236001,x236002,x236003,x236004,x236005,x236006,x236007,x236008,x236009,x236010 => if x11 < (x1.length : Int) then (if 0 ≤ x11 then ((bourneref37_Reach.f k x236000 x236001 x236002 x236003 x236004 x236005 x236006 x236007 x236008 x236009 x236010 ((rd_T45 x1 x11).f3)).bind fun t241 => (if (t241.length : Int) = 0 then (bourneref37_Day.j2 k x1 x8 x10 x11 t241 0 x236000 x236001 x236002 x236003 x236004 x236005 x236006 x236007 x236008 x236009 x236010) else (bourneref37_Day.j2 k x1 x8 x10 x11 t241 (mx 0 ((rd_T45 x1 x11).f4)) x236000 x236001 x236002 x236003 x236004 x236005 x236006 x236007 x236008 x236009 x236010))) else (none)) else (some (x10,x8))
def bourneref37_Day.j2 : Nat → List (S45) → List Int → List (S47) → Int → List Int → Int → ByteArray → List ByteArray → Int → List (S58) → List (S98) → List (S100) → List (S102) → List (S104) → List (S106) → List Int → Int → Option ((List (S47)) × List Int)
 | 0,_,_,_,_,_,_,_,_,_,_,_,_,_,_,_,_,_ => none
 | k + 1,x1,x8,x10,x11,x12,x13,x236000,x236001,x236002,x236003,x236004,x236005,x236006,x236007,x236008,x236009,x236010 => bourneref37_Day.l2 k x1 x8 x10 x11 x12 x13 0 x236000 x236001 x236002 x236003 x236004 x236005 x236006 x236007 x236008 x236009 x236010
def bourneref37_Day.l2 : Nat → List (S45) → List Int → List (S47) → Int → List Int → Int → Int → ByteArray → List ByteArray → Int → List (S58) → List (S98) → List (S100) → List (S102) → List (S104) → List (S106) → List Int → Int → Option ((List (S47)) × List Int)
 | 0,_,_,_,_,_,_,_,_,_,_,_,_,_,_,_,_,_,_ => none
 | k + 1,x1,x8,x10,x11,x12,x13,x14,x236000,x236001,x236002,x236003,x236004,x236005,x236006,x236007,x236008,x236009,x236010 => if x14 < (x12.length : Int) then (if 0 ≤ x14 then (if 0 ≤ (rd x12 x14) then (if (rd x12 x14) < (x8.length : Int) then (bourneref37_Day.l2 k x1 x8 x10 x11 x12 (mn x13 (rd x8 (rd x12 x14))) (wrap64 (x14 + 1)) x236000 x236001 x236002 x236003 x236004 x236005 x236006 x236007 x236008 x236009 x236010) else (none)) else (none)) else (none)) else (bourneref37_Day.l3 k x1 x8 x10 x11 x12 x13 0 x236000 x236001 x236002 x236003 x236004 x236005 x236006 x236007 x236008 x236009 x236010)
def bourneref37_Day.l3 : Nat → List (S45) → List Int → List (S47) → Int → List Int → Int → Int → ByteArray → List ByteArray → Int → List (S58) → List (S98) → List (S100) → List (S102) → List (S104) → List (S106) → List Int → Int → Option ((List (S47)) × List Int)
 | 0,_,_,_,_,_,_,_,_,_,_,_,_,_,_,_,_,_,_ => none
 | k + 1,x1,x8,x10,x11,x12,x13,x15,x236000,x236001,x236002,x236003,x236004,x236005,x236006,x236007,x236008,x236009,x236010 => if x15 < (x12.length : Int) then (if 0 ≤ x15 then (if 0 ≤ (rd x12 x15) then (if (rd x12 x15) < (x8.length : Int) then (bourneref37_Day.l3 k x1 (x8.set ((rd x12 x15) : Int).toNat (wrap64 ((rd x8 (rd x12 x15)) - x13))) x10 x11 x12 x13 (wrap64 (x15 + 1)) x236000 x236001 x236002 x236003 x236004 x236005 x236006 x236007 x236008 x236009 x236010) else (none)) else (none)) else (none)) else (if 0 ≤ x11 then (if x11 < (x1.length : Int) then (if x10.length < 8796093022208 then (bourneref37_Day.l1 k x1 x8 (x10 ++ [(⟨(rd_T45 x1 x11).f0,x13⟩ : S47)]) (wrap64 (x11 + 1)) x236000 x236001 x236002 x236003 x236004 x236005 x236006 x236007 x236008 x236009 x236010) else (none)) else (none)) else (none))
end
def bourneref37_Day.f (k : Nat) (a0_0 : ByteArray) (l0_1 : List ByteArray) (a0_2 : Int) (l0_3 : List (S58)) (l0_4 : List (S98)) (l0_5 : List (S100)) (l0_6 : List (S102)) (l0_7 : List (S104)) (l0_8 : List (S106)) (l0_9 : List Int) (a0_10 : Int) (l1 : List (S45)) (l2 : List Int) : Option ((List (S47)) × List Int) := bourneref37_Day.l0 k l1 l2 ([] : List Int) 0 a0_0 l0_1 a0_2 l0_3 l0_4 l0_5 l0_6 l0_7 l0_8 l0_9 a0_10
theorem bourneref37_Day.mono_l : ∀ k,(∀ y0 y1 y2 y3 y4 y5 y6 y7 y8 y9 y10 y11 y12 y13 y14,LeO (bourneref37_Day.l0 k y0 y1 y2 y3 y4 y5 y6 y7 y8 y9 y10 y11 y12 y13 y14) (bourneref37_Day.l0 (k + 1) y0 y1 y2 y3 y4 y5 y6 y7 y8 y9 y10 y11 y12 y13 y14)) ∧ (∀ y0 y1 y2 y3 y4 y5 y6 y7 y8 y9 y10 y11 y12 y13 y14,LeO (bourneref37_Day.l1 k y0 y1 y2 y3 y4 y5 y6 y7 y8 y9 y10 y11 y12 y13 y14) (bourneref37_Day.l1 (k + 1) y0 y1 y2 y3 y4 y5 y6 y7 y8 y9 y10 y11 y12 y13 y14)) ∧ (∀ y0 y1 y2 y3 y4 y5 y6 y7 y8 y9 y10 y11 y12 y13 y14 y15 y16,LeO (bourneref37_Day.j2 k y0 y1 y2 y3 y4 y5 y6 y7 y8 y9 y10 y11 y12 y13 y14 y15 y16) (bourneref37_Day.j2 (k + 1) y0 y1 y2 y3 y4 y5 y6 y7 y8 y9 y10 y11 y12 y13 y14 y15 y16)) ∧ (∀ y0 y1 y2 y3 y4 y5 y6 y7 y8 y9 y10 y11 y12 y13 y14 y15 y16 y17,LeO (bourneref37_Day.l2 k y0 y1 y2 y3 y4 y5 y6 y7 y8 y9 y10 y11 y12 y13 y14 y15 y16 y17) (bourneref37_Day.l2 (k + 1) y0 y1 y2 y3 y4 y5 y6 y7 y8 y9 y10 y11 y12 y13 y14 y15 y16 y17)) ∧ (∀ y0 y1 y2 y3 y4 y5 y6 y7 y8 y9 y10 y11 y12 y13 y14 y15 y16 y17,LeO (bourneref37_Day.l3 k y0 y1 y2 y3 y4 y5 y6 y7 y8 y9 y10 y11 y12 y13 y14 y15 y16 y17) (bourneref37_Day.l3 (k + 1) y0 y1 y2 y3 y4 y5 y6 y7 y8 y9 y10 y11 y12 y13 y14 y15 y16 y17))
 | 0 => ⟨fun _ _ _ _ _ _ _ _ _ _ _ _ _ _ _ r h => by simp [bourneref37_Day.l0] at h,fun _ _ _ _ _ _ _ _ _ _ _ _ _ _ _ r h => by simp [bourneref37_Day.l1] at h,fun _ _ _ _ _ _ _ _ _ _ _ _ _ _ _ _ _ r h => by simp [bourneref37_Day.j2] at h,fun _ _ _ _ _ _ _ _ _ _ _ _ _ _ _ _ _ _ r h => by simp [bourneref37_Day.l2] at h,fun _ _ _ _ _ _ _ _ _ _ _ _ _ _ _ _ _ _ r h => by simp [bourneref37_Day.l3] at h⟩
 | k + 1 => by
  obtain ⟨ih0,ih1,ih2,ih3,ih4⟩ := bourneref37_Day.mono_l k
  refine ⟨?_,?_,?_,?_,?_⟩
  ·intro y0 y1 y2 y3 y4 y5 y6 y7 y8 y9 y10 y11 y12 y13 y14
   unfold bourneref37_Day.l0
   repeat' first
   | (with_reducible exact ih0 _ _ _ _ _ _ _ _ _ _ _ _ _ _ _)
   | (with_reducible exact ih1 _ _ _ _ _ _ _ _ _ _ _ _ _ _ _)
   | (with_reducible exact ih2 _ _ _ _ _ _ _ _ _ _ _ _ _ _ _ _ _)
   | (with_reducible exact ih3 _ _ _ _ _ _ _ _ _ _ _ _ _ _ _ _ _ _)
   | (with_reducible exact ih4 _ _ _ _ _ _ _ _ _ _ _ _ _ _ _ _ _ _)
   | (with_reducible exact bourneref37_Reach.mono _ _ _ _ _ _ _ _ _ _ _ _ _)
   | (with_reducible exact bourneref37_There.mono _ _ _ _ _ _ _ _ _ _ _ _ _ _)
   | (with_reducible exact LeO.refl _)
   | (with_reducible exact LeO.none _)
   | (with_reducible refine LeO.ite ?_ ?_)
   | (with_reducible refine LeO.bind ?_ (fun _ => ?_))
   | exact ih0 _ _ _ _ _ _ _ _ _ _ _ _ _ _ _
   | exact ih1 _ _ _ _ _ _ _ _ _ _ _ _ _ _ _
   | exact ih2 _ _ _ _ _ _ _ _ _ _ _ _ _ _ _ _ _
   | exact ih3 _ _ _ _ _ _ _ _ _ _ _ _ _ _ _ _ _ _
   | exact ih4 _ _ _ _ _ _ _ _ _ _ _ _ _ _ _ _ _ _
   | exact bourneref37_Reach.mono _ _ _ _ _ _ _ _ _ _ _ _ _
   | exact bourneref37_There.mono _ _ _ _ _ _ _ _ _ _ _ _ _ _
   | exact LeO.none _
   | refine LeO.ite ?_ ?_
   | refine LeO.bind ?_ (fun _ => ?_)
  ·intro y0 y1 y2 y3 y4 y5 y6 y7 y8 y9 y10 y11 y12 y13 y14
   unfold bourneref37_Day.l1
   repeat' first
   | (with_reducible exact ih0 _ _ _ _ _ _ _ _ _ _ _ _ _ _ _)
   | (with_reducible exact ih1 _ _ _ _ _ _ _ _ _ _ _ _ _ _ _)
   | (with_reducible exact ih2 _ _ _ _ _ _ _ _ _ _ _ _ _ _ _ _ _)
   | (with_reducible exact ih3 _ _ _ _ _ _ _ _ _ _ _ _ _ _ _ _ _ _)
   | (with_reducible exact ih4 _ _ _ _ _ _ _ _ _ _ _ _ _ _ _ _ _ _)
   | (with_reducible exact bourneref37_Reach.mono _ _ _ _ _ _ _ _ _ _ _ _ _)
   | (with_reducible exact bourneref37_There.mono _ _ _ _ _ _ _ _ _ _ _ _ _ _)
   | (with_reducible exact LeO.refl _)
   | (with_reducible exact LeO.none _)
   | (with_reducible refine LeO.ite ?_ ?_)
   | (with_reducible refine LeO.bind ?_ (fun _ => ?_))
   | exact ih0 _ _ _ _ _ _ _ _ _ _ _ _ _ _ _
   | exact ih1 _ _ _ _ _ _ _ _ _ _ _ _ _ _ _
   | exact ih2 _ _ _ _ _ _ _ _ _ _ _ _ _ _ _ _ _
   | exact ih3 _ _ _ _ _ _ _ _ _ _ _ _ _ _ _ _ _ _
   | exact ih4 _ _ _ _ _ _ _ _ _ _ _ _ _ _ _ _ _ _
   | exact bourneref37_Reach.mono _ _ _ _ _ _ _ _ _ _ _ _ _
   | exact bourneref37_There.mono _ _ _ _ _ _ _ _ _ _ _ _ _ _
   | exact LeO.none _
   | refine LeO.ite ?_ ?_
   | refine LeO.bind ?_ (fun _ => ?_)
  ·intro y0 y1 y2 y3 y4 y5 y6 y7 y8 y9 y10 y11 y12 y13 y14 y15 y16
   unfold bourneref37_Day.j2
   repeat' first
   | (with_reducible exact ih0 _ _ _ _ _ _ _ _ _ _ _ _ _ _ _)
   | (with_reducible exact ih1 _ _ _ _ _ _ _ _ _ _ _ _ _ _ _)
   | (with_reducible exact ih2 _ _ _ _ _ _ _ _ _ _ _ _ _ _ _ _ _)
   | (with_reducible exact ih3 _ _ _ _ _ _ _ _ _ _ _ _ _ _ _ _ _ _)
   | (with_reducible exact ih4 _ _ _ _ _ _ _ _ _ _ _ _ _ _ _ _ _ _)
   | (with_reducible exact bourneref37_Reach.mono _ _ _ _ _ _ _ _ _ _ _ _ _)
   | (with_reducible exact bourneref37_There.mono _ _ _ _ _ _ _ _ _ _ _ _ _ _)
   | (with_reducible exact LeO.refl _)
   | (with_reducible exact LeO.none _)
   | (with_reducible refine LeO.ite ?_ ?_)
   | (with_reducible refine LeO.bind ?_ (fun _ => ?_))
   | exact ih0 _ _ _ _ _ _ _ _ _ _ _ _ _ _ _
   | exact ih1 _ _ _ _ _ _ _ _ _ _ _ _ _ _ _
   | exact ih2 _ _ _ _ _ _ _ _ _ _ _ _ _ _ _ _ _
   | exact ih3 _ _ _ _ _ _ _ _ _ _ _ _ _ _ _ _ _ _
   | exact ih4 _ _ _ _ _ _ _ _ _ _ _ _ _ _ _ _ _ _
   | exact bourneref37_Reach.mono _ _ _ _ _ _ _ _ _ _ _ _ _
   | exact bourneref37_There.mono _ _ _ _ _ _ _ _ _ _ _ _ _ _
   | exact LeO.none _
   | refine LeO.ite ?_ ?_
   | refine LeO.bind ?_ (fun _ => ?_)
  ·intro y0 y1 y2 y3 y4 y5 y6 y7 y8 y9 y10 y11 y12 y13 y14 y15 y16 y17
   unfold bourneref37_Day.l2
   repeat' first
   | (with_reducible exact ih0 _ _ _ _ _ _ _ _ _ _ _ _ _ _ _)
   | (with_reducible exact ih1 _ _ _ _ _ _ _ _ _ _ _ _ _ _ _)
   | (with_reducible exact ih2 _ _ _ _ _ _ _ _ _ _ _ _ _ _ _ _ _)
   | (with_reducible exact ih3 _ _ _ _ _ _ _ _ _ _ _ _ _ _ _ _ _ _)
   | (with_reducible exact ih4 _ _ _ _ _ _ _ _ _ _ _ _ _ _ _ _ _ _)
   | (with_reducible exact bourneref37_Reach.mono _ _ _ _ _ _ _ _ _ _ _ _ _)
   | (with_reducible exact bourneref37_There.mono _ _ _ _ _ _ _ _ _ _ _ _ _ _)
   | (with_reducible exact LeO.refl _)
   | (with_reducible exact LeO.none _)
   | (with_reducible refine LeO.ite ?_ ?_)
   | (with_reducible refine LeO.bind ?_ (fun _ => ?_))
   | exact ih0 _ _ _ _ _ _ _ _ _ _ _ _ _ _ _
   | exact ih1 _ _ _ _ _ _ _ _ _ _ _ _ _ _ _
   | exact ih2 _ _ _ _ _ _ _ _ _ _ _ _ _ _ _ _ _
   | exact ih3 _ _ _ _ _ _ _ _ _ _ _ _ _ _ _ _ _ _
   | exact ih4 _ _ _ _ _ _ _ _ _ _ _ _ _ _ _ _ _ _
   | exact bourneref37_Reach.mono _ _ _ _ _ _ _ _ _ _ _ _ _
   | exact bourneref37_There.mono _ _ _ _ _ _ _ _ _ _ _ _ _ _
   | exact LeO.none _
   | refine LeO.ite ?_ ?_
   | refine LeO.bind ?_ (fun _ => ?_)
  ·intro y0 y1 y2 y3 y4 y5 y6 y7 y8 y9 y10 y11 y12 y13 y14 y15 y16 y17
   unfold bourneref37_Day.l3
   repeat' first
   | (with_reducible exact ih0 _ _ _ _ _ _ _ _ _ _ _ _ _ _ _)
   | (with_reducible exact ih1 _ _ _ _ _ _ _ _ _ _ _ _ _ _ _)
   | (with_reducible exact ih2 _ _ _ _ _ _ _ _ _ _ _ _ _ _ _ _ _)
   | (with_reducible exact ih3 _ _ _ _ _ _ _ _ _ _ _ _ _ _ _ _ _ _)
   | (with_reducible exact ih4 _ _ _ _ _ _ _ _ _ _ _ _ _ _ _ _ _ _)
   | (with_reducible exact bourneref37_Reach.mono _ _ _ _ _ _ _ _ _ _ _ _ _)
   | (with_reducible exact bourneref37_There.mono _ _ _ _ _ _ _ _ _ _ _ _ _ _)
   | (with_reducible exact LeO.refl _)
   | (with_reducible exact LeO.none _)
   | (with_reducible refine LeO.ite ?_ ?_)
   | (with_reducible refine LeO.bind ?_ (fun _ => ?_))
   | exact ih0 _ _ _ _ _ _ _ _ _ _ _ _ _ _ _
   | exact ih1 _ _ _ _ _ _ _ _ _ _ _ _ _ _ _
   | exact ih2 _ _ _ _ _ _ _ _ _ _ _ _ _ _ _ _ _
   | exact ih3 _ _ _ _ _ _ _ _ _ _ _ _ _ _ _ _ _ _
   | exact ih4 _ _ _ _ _ _ _ _ _ _ _ _ _ _ _ _ _ _
   | exact bourneref37_Reach.mono _ _ _ _ _ _ _ _ _ _ _ _ _
   | exact bourneref37_There.mono _ _ _ _ _ _ _ _ _ _ _ _ _ _
   | exact LeO.none _
   | refine LeO.ite ?_ ?_
   | refine LeO.bind ?_ (fun _ => ?_)
theorem bourneref37_Day.mono : ∀ a0 a1 a2 a3 a4 a5 a6 a7 a8 a9 a10 a11 a12 k,LeO (bourneref37_Day.f k a0 a1 a2 a3 a4 a5 a6 a7 a8 a9 a10 a11 a12) (bourneref37_Day.f (k + 1) a0 a1 a2 a3 a4 a5 a6 a7 a8 a9 a10 a11 a12) := by
 intro a0 a1 a2 a3 a4 a5 a6 a7 a8 a9 a10 a11 a12 k
 obtain ⟨ih0,ih1,ih2,ih3,ih4⟩ := bourneref37_Day.mono_l k
 unfold bourneref37_Day.f
 repeat' first
   | (with_reducible exact ih0 _ _ _ _ _ _ _ _ _ _ _ _ _ _ _)
   | (with_reducible exact ih1 _ _ _ _ _ _ _ _ _ _ _ _ _ _ _)
   | (with_reducible exact ih2 _ _ _ _ _ _ _ _ _ _ _ _ _ _ _ _ _)
   | (with_reducible exact ih3 _ _ _ _ _ _ _ _ _ _ _ _ _ _ _ _ _ _)
   | (with_reducible exact ih4 _ _ _ _ _ _ _ _ _ _ _ _ _ _ _ _ _ _)
   | (with_reducible exact bourneref37_Reach.mono _ _ _ _ _ _ _ _ _ _ _ _ _)
   | (with_reducible exact bourneref37_There.mono _ _ _ _ _ _ _ _ _ _ _ _ _ _)
   | (with_reducible exact LeO.refl _)
   | (with_reducible exact LeO.none _)
   | (with_reducible refine LeO.ite ?_ ?_)
   | (with_reducible refine LeO.bind ?_ (fun _ => ?_))
   | exact ih0 _ _ _ _ _ _ _ _ _ _ _ _ _ _ _
   | exact ih1 _ _ _ _ _ _ _ _ _ _ _ _ _ _ _
   | exact ih2 _ _ _ _ _ _ _ _ _ _ _ _ _ _ _ _ _
   | exact ih3 _ _ _ _ _ _ _ _ _ _ _ _ _ _ _ _ _ _
   | exact ih4 _ _ _ _ _ _ _ _ _ _ _ _ _ _ _ _ _ _
   | exact bourneref37_Reach.mono _ _ _ _ _ _ _ _ _ _ _ _ _
   | exact bourneref37_There.mono _ _ _ _ _ _ _ _ _ _ _ _ _ _
   | exact LeO.none _
   | refine LeO.ite ?_ ?_
   | refine LeO.bind ?_ (fun _ => ?_)
def bourneref37_Day.T10 : Bool × List (List Nat × List Nat) := (true,[([],[]),([],[]),([],[]),([1,2],[1,2]),([3],[3]),([4],[4]),([0,5],[0,5]),([6,6,0,1,2,3,4,5,6],[6])])
def bourneref37_Day.B10 : List Nat := [0,0,0,6,14,30,63,127]
theorem bourneref37_Day.tab10 : rtab .any (opsOf Try.f11 10) = bourneref37_Day.T10 := by kernel_rfl
theorem bourneref37_Day.bits10 : waitsOk bourneref37_Day.T10.2 bourneref37_Day.B10 = true := by kernel_rfl
def bourneref37_Day.T21 : Bool × List (List Nat × List Nat) := (true,[([],[]),([],[]),([],[]),([1,2],[1,2]),([3],[3]),([],[]),([],[]),([],[]),([6,7],[6,7]),([8],[8]),([5,9],[5,9]),([10],[10]),([],[]),([11,12],[11,12]),([0,4,0,1,2,3,4,5,6,7,8,9,10,11,12,13],[0,4]),([14,13,0,1,2,3,4,5,6,7,8,9,10,11,12,13],[13,14])])
def bourneref37_Day.B21 : List Nat := [0,0,0,6,14,0,0,0,192,448,992,2016,0,8160,16383,32767]
theorem bourneref37_Day.tab21 : rtab .any (opsOf Try.f11 21) = bourneref37_Day.T21 := by kernel_rfl
theorem bourneref37_Day.bits21 : waitsOk bourneref37_Day.T21.2 bourneref37_Day.B21 = true := by kernel_rfl
set_option maxHeartbeats 8000000 in
set_option maxRecDepth 100000 in
theorem bourneref37_Day.calls (k : Nat) (a0_0 : ByteArray) (A0_1 : Option Addr) (c0_1 : Nat) (l0_1 : List ByteArray) (a0_2 : Int) (A0_3 : Option Addr) (c0_3 : Nat) (l0_3 : List (S58)) (A0_4 : Option Addr) (c0_4 : Nat) (l0_4 : List (S98)) (A0_5 : Option Addr) (c0_5 : Nat) (l0_5 : List (S100)) (A0_6 : Option Addr) (c0_6 : Nat) (l0_6 : List (S102)) (A0_7 : Option Addr) (c0_7 : Nat) (l0_7 : List (S104)) (A0_8 : Option Addr) (c0_8 : Nat) (l0_8 : List (S106)) (A0_9 : Option Addr) (c0_9 : Nat) (l0_9 : List Int) (a0_10 : Int) (A1 : Option Addr) (c1 : Nat) (l1 : List (S45)) (A2 : Option Addr) (c2 : Nat) (l2 : List Int) (r1 : List (S47)) (r2 : List Int) (w : World) (hr0_1 : Kd.C Kd.string w A0_1 l0_1.length l0_1) (hc0_1 : l0_1.length ≤ c0_1) (hr0_3 : Kd.C k58 w A0_3 l0_3.length l0_3) (hc0_3 : l0_3.length ≤ c0_3) (hr0_4 : Kd.C k98 w A0_4 l0_4.length l0_4) (hc0_4 : l0_4.length ≤ c0_4) (hr0_5 : Kd.C k100 w A0_5 l0_5.length l0_5) (hc0_5 : l0_5.length ≤ c0_5) (hr0_6 : Kd.C k102 w A0_6 l0_6.length l0_6) (hc0_6 : l0_6.length ≤ c0_6) (hr0_7 : Kd.C k104 w A0_7 l0_7.length l0_7) (hc0_7 : l0_7.length ≤ c0_7) (hr0_8 : Kd.C k106 w A0_8 l0_8.length l0_8) (hc0_8 : l0_8.length ≤ c0_8) (hr0_9 : Kd.C (Kd.int .i64) w A0_9 l0_9.length l0_9) (hc0_9 : l0_9.length ≤ c0_9) (hr1 : Kd.C k45 w A1 l1.length l1) (hc1 : l1.length ≤ c1) (hr2 : Kd.C (Kd.int .i64) w A2 l2.length l2) (hc2 : l2.length ≤ c2) (h : bourneref37_Day.f k a0_0 l0_1 a0_2 l0_3 l0_4 l0_5 l0_6 l0_7 l0_8 l0_9 a0_10 l1 l2 = some (r1,r2)) :
  Calls Try.prog 11 #[.agg #[.string a0_0,.slice A0_1 l0_1.length c0_1,.int .i64 a0_2,.slice A0_3 l0_3.length c0_3,.slice A0_4 l0_4.length c0_4,.slice A0_5 l0_5.length c0_5,.slice A0_6 l0_6.length c0_6,.slice A0_7 l0_7.length c0_7,.slice A0_8 l0_8.length c0_8,.slice A0_9 l0_9.length c0_9,.int .i64 a0_10],.slice A1 l1.length c1,.slice A2 l2.length c2] w fun e w' => ∃ v0_ v1_ : Value,e = .returned (.tuple #[v0_,v1_]) ∧ Kd.R k47 47 w' w.heap.size (fun _ => True) v0_ r1 ∧ Kd.R (Kd.int .i64) 3 w' w.heap.size (fun _ => True) v1_ r2 ∧ Below w.heap.size w w' := by
 have hu31 := Try.underlying31
 have hu47 := Try.underlying47
 have HR0_1 := Aside0.mk hr0_1
 have HC0_1 := Aside0.mk hc0_1
 clear hr0_1 hc0_1
 have HR0_3 := Aside0.mk hr0_3
 have HC0_3 := Aside0.mk hc0_3
 clear hr0_3 hc0_3
 have HR0_4 := Aside0.mk hr0_4
 have HC0_4 := Aside0.mk hc0_4
 clear hr0_4 hc0_4
 have HR0_5 := Aside0.mk hr0_5
 have HC0_5 := Aside0.mk hc0_5
 clear hr0_5 hc0_5
 have HR0_6 := Aside0.mk hr0_6
 have HC0_6 := Aside0.mk hc0_6
 clear hr0_6 hc0_6
 have HR0_7 := Aside0.mk hr0_7
 have HC0_7 := Aside0.mk hc0_7
 clear hr0_7 hc0_7
 have HR0_8 := Aside0.mk hr0_8
 have HC0_8 := Aside0.mk hc0_8
 clear hr0_8 hc0_8
 have HR0_9 := Aside0.mk hr0_9
 have HC0_9 := Aside0.mk hc0_9
 clear hr0_9 hc0_9
 have HR1 := Aside0.mk hr1
 have HC1 := Aside0.mk hc1
 clear hr1 hc1
 have HR2 := Aside0.mk hr2
 have HC2 := Aside0.mk hc2
 clear hr2 hc2
 have HB := Aside0.mk (Below.refl w.heap.size w)
 have H : (bourneref37_Day.l0 k l1 l2 ([] : List Int) 0 a0_0 l0_1 a0_2 l0_3 l0_4 l0_5 l0_6 l0_7 l0_8 l0_9 a0_10) = some (r1,r2) := h
 clear h
 have H' := Aside0.mk H
 clear H
 go_enter Try.func11,Try.ntmps11
 go_wp2_with (first | ((with_reducible refine gate_dst (N := 3) rfl ?_);refine box_event ?hg (N := 3) ?hd (cs := #[.string a0_0,.slice A0_1 l0_1.length c0_1,.int .i64 a0_2,.slice A0_3 l0_3.length c0_3,.slice A0_4 l0_4.length c0_4,.slice A0_5 l0_5.length c0_5,.slice A0_6 l0_6.length c0_6,.slice A0_7 l0_7.length c0_7,.slice A0_8 l0_8.length c0_8,.slice A0_9 l0_9.length c0_9,.int .i64 a0_10]) (t := 31) ?hr ?_;(case hd => rfl);(case hg => rfl);(case hr => first | (go_simp;done) | (go_simp;rfl));intro gb235 hg w4 hbox hb;have n0_ := Aside0.mk (below_step (by repeat (first | (with_reducible first | exact HB.out | apply below_alloc | apply pw_below_drewN | apply below_drew1) | exact HB.out)) hb);have n1_ := Aside0.mk (hbox);have n2_ := Aside0.mk ((by rw [hg];exact (below_size (by repeat (first | (with_reducible first | exact HB.out | apply below_alloc | apply pw_below_drewN | apply below_drew1) | exact HB.out))) : w.heap.size ≤ gb235));have n3_ := Aside0.mk ((by rw [hg];exact (below_size (by repeat (first | (with_reducible first | exact HB.out | apply below_alloc | apply pw_below_drewN | apply below_drew1) | exact HB.out))) : w.heap.size ≤ gb235));clear HB;have HB := n0_;have BK235 := n1_;have GW235 := n2_;have GE235 := n3_;clear n0_ n1_ n2_ n3_;clear hb hbox hg))
 go_loopg [8,9] k (fun kq v8 v9 w' => ∃ (x8_1 : List Int) (x9_1 : Int),v9 = .int .i64 x9_1 ∧ Aside0 (bourneref37_Day.l0 kq l1 l2 x8_1 x9_1 a0_0 l0_1 a0_2 l0_3 l0_4 l0_5 l0_6 l0_7 l0_8 l0_9 a0_10 = some (r1,r2)) ∧ Aside0 (kq ≤ k) ∧ Aside0 (Kd.R (Kd.int .i64) 3 w' w.heap.size (fun _ => True) v8 x8_1) ∧ Aside0 (w'.heap[gb235]? = some (.cells #[.string a0_0,(.slice A0_1 l0_1.length c0_1),.int .i64 a0_2,(.slice A0_3 l0_3.length c0_3),(.slice A0_4 l0_4.length c0_4),(.slice A0_5 l0_5.length c0_5),(.slice A0_6 l0_6.length c0_6),(.slice A0_7 l0_7.length c0_7),(.slice A0_8 l0_8.length c0_8),(.slice A0_9 l0_9.length c0_9),.int .i64 a0_10] 31 (0,0))) ∧ Aside0 (Below w.heap.size w w'))
 case atStart => exact ⟨(([] : List Int)),(0),(by first | rfl | (simp;done) | (simp [*];done)),H',⟨Nat.le_refl _⟩,⟨by first | exact Kd.R_nil _ _ _ _ _ | exact Kd.N_nil _ _ _ _ _ | exact Kd.V_nil _ _ _ _ _ | exact Kd.Q_nil _ _ _ _ _ | exact Kd.S_nil _ _ _ _ _⟩,⟨by (with_reducible repeat (first | refine blk_drewN ?_ _ | refine blk_drew ?_ | refine blk_alloc ?_ _));exact BK235.out⟩,⟨by repeat (first | (with_reducible first | exact HB.out | apply below_alloc | apply pw_below_drewN | apply below_drew1 | refine below_set ?_ GE235.out) | exact HB.out)⟩⟩
 case round =>
  clear H'
  try clear c1
  try clear c2
  try clear p2
  obtain ⟨x8_1,x9_1,rfl,HA,HK1,HO_8,BK235,HB⟩ := hrel
  cases gk with
  | zero => exact absurd HA.out (by simp [bourneref37_Day.l0])
  | succ k1 =>
   have H := HA.out
   clear HA
   simp only [bourneref37_Day.l0] at H
   by_cases c5 : x9_1 < (l0_3.length : Int)
   ·rw [if_pos c5] at H
    have c5b0 : decide (x9_1 < (l0_3.length : Int)) = true := decide_eq_true c5
    clear c5
    replace H := Option.bind_eq_some_iff.mp H
    obtain ⟨t236,A60,H⟩ := H
    replace H : (if x8_1.length < 17592186044416 then (bourneref37_Day.l0 k1 l1 l2 (x8_1 ++ [t236]) (wrap64 (x9_1 + 1)) a0_0 l0_1 a0_2 l0_3 l0_4 l0_5 l0_6 l0_7 l0_8 l0_9 a0_10) else (none)) = some (r1,r2) := H
    have A6 := Aside0.mk A60
    clear A60
    by_cases c7 : x8_1.length < 17592186044416
    ·rw [if_pos c7] at H
     have LMc7 := Aside0.mk c7
     clear c7
     obtain ⟨y237,hy237⟩ : ∃ y_ : List Int,y_ = (x8_1 ++ [t236]) := ⟨_,rfl⟩
     replace H : (bourneref37_Day.l0 k1 l1 l2 y237 (wrap64 (x9_1 + 1)) a0_0 l0_1 a0_2 l0_3 l0_4 l0_5 l0_6 l0_7 l0_8 l0_9 a0_10) = some (r1,r2) := by first | (rw [hy237];with_reducible exact H) | (have H2_ := (Option.bind_some _ _).symm.trans H;rw [hy237];with_reducible exact H2_) | (have H2_ := (Option.bind_some _ _).symm.trans H;with_reducible exact H2_) | with_reducible exact H | (rw [hy237];exact H) | exact H
     have Ny237 := Aside0.mk hy237
     clear hy237
     have H' := Aside0.mk H
     clear H
     have hcz8_0 : wr.cell? ⟨gb235,0,none⟩ = some (.string a0_0) := (blk_cell BK235.out 0).trans rfl
     have hcz8_1 : wr.cell? ⟨gb235,1,none⟩ = some (.slice A0_1 l0_1.length c0_1) := (blk_cell BK235.out 1).trans rfl
     have hcz8_2 : wr.cell? ⟨gb235,2,none⟩ = some (.int .i64 a0_2) := (blk_cell BK235.out 2).trans rfl
     have hcz8_3 : wr.cell? ⟨gb235,3,none⟩ = some (.slice A0_3 l0_3.length c0_3) := (blk_cell BK235.out 3).trans rfl
     have hcz8_4 : wr.cell? ⟨gb235,4,none⟩ = some (.slice A0_4 l0_4.length c0_4) := (blk_cell BK235.out 4).trans rfl
     have hcz8_5 : wr.cell? ⟨gb235,5,none⟩ = some (.slice A0_5 l0_5.length c0_5) := (blk_cell BK235.out 5).trans rfl
     have hcz8_6 : wr.cell? ⟨gb235,6,none⟩ = some (.slice A0_6 l0_6.length c0_6) := (blk_cell BK235.out 6).trans rfl
     have hcz8_7 : wr.cell? ⟨gb235,7,none⟩ = some (.slice A0_7 l0_7.length c0_7) := (blk_cell BK235.out 7).trans rfl
     have hcz8_8 : wr.cell? ⟨gb235,8,none⟩ = some (.slice A0_8 l0_8.length c0_8) := (blk_cell BK235.out 8).trans rfl
     have hcz8_9 : wr.cell? ⟨gb235,9,none⟩ = some (.slice A0_9 l0_9.length c0_9) := (blk_cell BK235.out 9).trans rfl
     have hcz8_10 : wr.cell? ⟨gb235,10,none⟩ = some (.int .i64 a0_10) := (blk_cell BK235.out 10).trans rfl
     have hfz8_0 := blk_frozen BK235.out 0
     have hfz8_1 := blk_frozen BK235.out 1
     have hfz8_2 := blk_frozen BK235.out 2
     have hfz8_3 := blk_frozen BK235.out 3
     have hfz8_4 := blk_frozen BK235.out 4
     have hfz8_5 := blk_frozen BK235.out 5
     have hfz8_6 := blk_frozen BK235.out 6
     have hfz8_7 := blk_frozen BK235.out 7
     have hfz8_8 := blk_frozen BK235.out 8
     have hfz8_9 := blk_frozen BK235.out 9
     have hfz8_10 := blk_frozen BK235.out 10
     go_wp2_with (first | ((with_reducible refine gate_callee (f := 19) rfl ?_);refine goesL_ (some 27) rfl rfl Try.func19 (by kernel_rfl) rfl #[.agg #[.string a0_0,.slice A0_1 l0_1.length c0_1,.int .i64 a0_2,.slice A0_3 l0_3.length c0_3,.slice A0_4 l0_4.length c0_4,.slice A0_5 l0_5.length c0_5,.slice A0_6 l0_6.length c0_6,.slice A0_7 l0_7.length c0_7,.slice A0_8 l0_8.length c0_8,.slice A0_9 l0_9.length c0_9,.int .i64 a0_10],.slice A2 l2.length c2,.int .i64 x9_1] rfl (by (try simp only [List.map_toArray,List.map_cons,List.map_nil]);first | done | rfl | (simp only [List.length_drop,List.length_take];rfl)) ?_;(with_reducible refine (bourneref37_There.calls k1 a0_0 _ _ l0_1 a0_2 _ _ l0_3 _ _ l0_4 _ _ l0_5 _ _ l0_6 _ _ l0_7 _ _ l0_8 _ _ l0_9 a0_10 _ _ l2 x9_1 t236 _ ?side1 ?side2 ?side3 ?side4 ?side5 ?side6 ?side7 ?side8 ?side9 ?side10 ?side11 ?side12 ?side13 ?side14 ?side15 ?side16 ?side17 ?side18 A6.out).mono ?_);(case side1 => repeat (first | exact (Kd.C_below HR0_1.out HB.out) | (with_reducible refine Kd.C_alloc ?_ _) | (with_reducible refine Kd.C_drewN ?_ _) | (with_reducible refine Kd.C_drew ?_)));(case side2 => exact HC0_1.out);(case side3 => repeat (first | exact (Kd.C_below HR0_3.out HB.out) | (with_reducible refine Kd.C_alloc ?_ _) | (with_reducible refine Kd.C_drewN ?_ _) | (with_reducible refine Kd.C_drew ?_)));(case side4 => exact HC0_3.out);(case side5 => repeat (first | exact (Kd.C_below HR0_4.out HB.out) | (with_reducible refine Kd.C_alloc ?_ _) | (with_reducible refine Kd.C_drewN ?_ _) | (with_reducible refine Kd.C_drew ?_)));(case side6 => exact HC0_4.out);(case side7 => repeat (first | exact (Kd.C_below HR0_5.out HB.out) | (with_reducible refine Kd.C_alloc ?_ _) | (with_reducible refine Kd.C_drewN ?_ _) | (with_reducible refine Kd.C_drew ?_)));(case side8 => exact HC0_5.out);(case side9 => repeat (first | exact (Kd.C_below HR0_6.out HB.out) | (with_reducible refine Kd.C_alloc ?_ _) | (with_reducible refine Kd.C_drewN ?_ _) | (with_reducible refine Kd.C_drew ?_)));(case side10 => exact HC0_6.out);(case side11 => repeat (first | exact (Kd.C_below HR0_7.out HB.out) | (with_reducible refine Kd.C_alloc ?_ _) | (with_reducible refine Kd.C_drewN ?_ _) | (with_reducible refine Kd.C_drew ?_)));(case side12 => exact HC0_7.out);(case side13 => repeat (first | exact (Kd.C_below HR0_8.out HB.out) | (with_reducible refine Kd.C_alloc ?_ _) | (with_reducible refine Kd.C_drewN ?_ _) | (with_reducible refine Kd.C_drew ?_)));(case side14 => exact HC0_8.out);(case side15 => repeat (first | exact (Kd.C_below HR0_9.out HB.out) | (with_reducible refine Kd.C_alloc ?_ _) | (with_reducible refine Kd.C_drewN ?_ _) | (with_reducible refine Kd.C_drew ?_)));(case side16 => exact HC0_9.out);(case side17 => repeat (first | exact (Kd.C_below HR2.out HB.out) | (with_reducible refine Kd.C_alloc ?_ _) | (with_reducible refine Kd.C_drewN ?_ _) | (with_reducible refine Kd.C_drew ?_)));(case side18 => exact HC2.out);rintro e w9 ⟨rfl,hb⟩;refine ⟨_,rfl,?_⟩;have n0_ := Aside0.mk (Kd.R_below (by (with_reducible repeat (first | apply Kd.R_alloc | apply Kd.R_drewN | apply Kd.R_drew));exact HO_8.out) hb);have n1_ := Aside0.mk (blk_below (g := gb235) (o := .cells #[.string a0_0,.slice A0_1 l0_1.length c0_1,.int .i64 a0_2,.slice A0_3 l0_3.length c0_3,.slice A0_4 l0_4.length c0_4,.slice A0_5 l0_5.length c0_5,.slice A0_6 l0_6.length c0_6,.slice A0_7 l0_7.length c0_7,.slice A0_8 l0_8.length c0_8,.slice A0_9 l0_9.length c0_9,.int .i64 a0_10] 31 (0,0)) (by (with_reducible repeat (first | refine blk_drewN ?_ _ | refine blk_drew ?_ | refine blk_alloc ?_ _));exact BK235.out) hb);have n2_ := Aside0.mk (below_step (by repeat (first | (with_reducible first | exact HB.out | apply below_alloc | apply pw_below_drewN | apply below_drew1 | refine below_set ?_ GE235.out) | exact HB.out)) hb);clear HO_8;clear BK235;clear HB;have HO_8 := n0_;have BK235 := n1_;have HB := n2_;clear n0_ n1_ n2_;(try clear hb);(try clear hb2);(try clear hk);(try clear hi)) | ((with_reducible refine gate_builtin (b := .append) (xs := #[.tmp 23,.tmp 28]) rfl ?_);at_builtin;refine Kd.R_append (Kd.int .i64) (w0 := w) w.heap.size rfl (.tmp 23) (.tmp 28) 29 3 (.int .i64 0) 8 rfl Try.underlying29 info3 rfl (by decide) (by omega) u8 x8_1 t236 [.int .i64 t236] (fun _ => True) (fun _ => False) rfl rfl ?aP (fun _ hk => hk.elim) ?aF ?aO ?aB ?aS ?aL ?_;(case aP => exact rfl);(case aB => exact (by repeat (first | (with_reducible first | exact HB.out | apply below_alloc | apply pw_below_drewN | apply below_drew1 | refine below_set ?_ GE235.out) | exact HB.out)));(case aF => exact (fun _ _ => trivial));(case aO => exact (by (with_reducible repeat (first | apply Kd.R_alloc | apply Kd.R_drewN | apply Kd.R_drew));exact HO_8.out));(case aS => exact (below_size (by repeat (first | (with_reducible first | exact HB.out | apply below_alloc | apply pw_below_drewN | apply below_drew1 | refine below_set ?_ GE235.out) | exact HB.out))));(case aL => have := LMc7.out;omega);intro v238 w10 ho hb hg hat;rw [← Ny237.out] at ho;have n0_ := Aside0.mk (blk_grown (g := gb235) (o := .cells #[.string a0_0,.slice A0_1 l0_1.length c0_1,.int .i64 a0_2,.slice A0_3 l0_3.length c0_3,.slice A0_4 l0_4.length c0_4,.slice A0_5 l0_5.length c0_5,.slice A0_6 l0_6.length c0_6,.slice A0_7 l0_7.length c0_7,.slice A0_8 l0_8.length c0_8,.slice A0_9 l0_9.length c0_9,.int .i64 a0_10] 31 (0,0)) (by (with_reducible repeat (first | refine blk_drewN ?_ _ | refine blk_drew ?_ | refine blk_alloc ?_ _));exact BK235.out) hg (Kd.R_ne HO_8.out BK235.out (by decide)));have n1_ := Aside0.mk (hb);have n2_ := Aside0.mk (ho);clear BK235;clear HB;clear HO_8;have BK235 := n0_;have HB := n1_;have HO239 := n2_;clear n0_ n1_ n2_;clear ho hb hg hat))
     go_roundg k1
     case measure => have := HK1.out;omega
     case rel => exact ⟨(y237),(wrap64 (x9_1 + 1)),(by first | rfl | (simp;done) | (simp [*];done)),H',⟨by have := HK1.out;omega⟩,⟨by (with_reducible repeat (first | apply Kd.R_alloc | apply Kd.R_drewN | apply Kd.R_drew));exact HO239.out⟩,⟨by (with_reducible repeat (first | refine blk_drewN ?_ _ | refine blk_drew ?_ | refine blk_alloc ?_ _));exact BK235.out⟩,⟨by repeat (first | (with_reducible first | exact HB.out | apply below_alloc | apply pw_below_drewN | apply below_drew1 | refine below_set ?_ GE235.out) | exact HB.out)⟩⟩
    ·rw [if_neg c7] at H
     exact absurd H (by simp)
   ·rw [if_neg c5] at H
    have c5b0 : decide (x9_1 < (l0_3.length : Int)) = false := decide_eq_false c5
    clear c5
    have H' := Aside0.mk H
    clear H
    have hcz11_0 : wr.cell? ⟨gb235,0,none⟩ = some (.string a0_0) := (blk_cell BK235.out 0).trans rfl
    have hcz11_1 : wr.cell? ⟨gb235,1,none⟩ = some (.slice A0_1 l0_1.length c0_1) := (blk_cell BK235.out 1).trans rfl
    have hcz11_2 : wr.cell? ⟨gb235,2,none⟩ = some (.int .i64 a0_2) := (blk_cell BK235.out 2).trans rfl
    have hcz11_3 : wr.cell? ⟨gb235,3,none⟩ = some (.slice A0_3 l0_3.length c0_3) := (blk_cell BK235.out 3).trans rfl
    have hcz11_4 : wr.cell? ⟨gb235,4,none⟩ = some (.slice A0_4 l0_4.length c0_4) := (blk_cell BK235.out 4).trans rfl
    have hcz11_5 : wr.cell? ⟨gb235,5,none⟩ = some (.slice A0_5 l0_5.length c0_5) := (blk_cell BK235.out 5).trans rfl
    have hcz11_6 : wr.cell? ⟨gb235,6,none⟩ = some (.slice A0_6 l0_6.length c0_6) := (blk_cell BK235.out 6).trans rfl
    have hcz11_7 : wr.cell? ⟨gb235,7,none⟩ = some (.slice A0_7 l0_7.length c0_7) := (blk_cell BK235.out 7).trans rfl
    have hcz11_8 : wr.cell? ⟨gb235,8,none⟩ = some (.slice A0_8 l0_8.length c0_8) := (blk_cell BK235.out 8).trans rfl
    have hcz11_9 : wr.cell? ⟨gb235,9,none⟩ = some (.slice A0_9 l0_9.length c0_9) := (blk_cell BK235.out 9).trans rfl
    have hcz11_10 : wr.cell? ⟨gb235,10,none⟩ = some (.int .i64 a0_10) := (blk_cell BK235.out 10).trans rfl
    have hfz11_0 := blk_frozen BK235.out 0
    have hfz11_1 := blk_frozen BK235.out 1
    have hfz11_2 := blk_frozen BK235.out 2
    have hfz11_3 := blk_frozen BK235.out 3
    have hfz11_4 := blk_frozen BK235.out 4
    have hfz11_5 := blk_frozen BK235.out 5
    have hfz11_6 := blk_frozen BK235.out 6
    have hfz11_7 := blk_frozen BK235.out 7
    have hfz11_8 := blk_frozen BK235.out 8
    have hfz11_9 := blk_frozen BK235.out 9
    have hfz11_10 := blk_frozen BK235.out 10
    go_wp2
    go_loopg [10,11] k1 (fun kq v10 v11 w' => ∃ (x8_2 : List Int) (x10_2 : List (S47)) (x11_2 : Int),v11 = .int .i64 x11_2 ∧ Aside0 (bourneref37_Day.l1 kq l1 x8_2 x10_2 x11_2 a0_0 l0_1 a0_2 l0_3 l0_4 l0_5 l0_6 l0_7 l0_8 l0_9 a0_10 = some (r1,r2)) ∧ Aside0 (kq ≤ k1) ∧ Aside0 (Kd.R (Kd.int .i64) 3 w' w.heap.size (fun _ => True) u8 x8_2) ∧ Aside0 (Kd.R k47 47 w' w.heap.size (fun _ => True) v10 x10_2) ∧ Aside0 (w'.heap[gb235]? = some (.cells #[.string a0_0,(.slice A0_1 l0_1.length c0_1),.int .i64 a0_2,(.slice A0_3 l0_3.length c0_3),(.slice A0_4 l0_4.length c0_4),(.slice A0_5 l0_5.length c0_5),(.slice A0_6 l0_6.length c0_6),(.slice A0_7 l0_7.length c0_7),(.slice A0_8 l0_8.length c0_8),(.slice A0_9 l0_9.length c0_9),.int .i64 a0_10] 31 (0,0))) ∧ Aside0 (Below w.heap.size w w'))
    case atStart => exact ⟨(x8_1),(([] : List (S47))),(0),(by first | rfl | (simp;done) | (simp [*];done)),H',⟨Nat.le_refl _⟩,⟨by (with_reducible repeat (first | apply Kd.R_alloc | apply Kd.R_drewN | apply Kd.R_drew));exact HO_8.out⟩,⟨by first | exact Kd.R_nil _ _ _ _ _ | exact Kd.N_nil _ _ _ _ _ | exact Kd.V_nil _ _ _ _ _ | exact Kd.Q_nil _ _ _ _ _ | exact Kd.S_nil _ _ _ _ _⟩,⟨by (with_reducible repeat (first | refine blk_drewN ?_ _ | refine blk_drew ?_ | refine blk_alloc ?_ _));exact BK235.out⟩,⟨by repeat (first | (with_reducible first | exact HB.out | apply below_alloc | apply pw_below_drewN | apply below_drew1 | refine below_set ?_ GE235.out) | exact HB.out)⟩⟩
    case round =>
     clear H'
     try clear c1
     try clear c2
     try clear p2
     try clear c5
     try clear c5b0
     try clear p6
     try clear c7
     try clear c11
     try clear hcz11_0
     try clear hcz11_1
     try clear hcz11_10
     try clear hcz11_2
     try clear hcz11_3
     try clear hcz11_4
     try clear hcz11_5
     try clear hcz11_6
     try clear hcz11_7
     try clear hcz11_8
     try clear hcz11_9
     try clear hcz8_0
     try clear hcz8_1
     try clear hcz8_10
     try clear hcz8_2
     try clear hcz8_3
     try clear hcz8_4
     try clear hcz8_5
     try clear hcz8_6
     try clear hcz8_7
     try clear hcz8_8
     try clear hcz8_9
     try clear hfz11_0
     try clear hfz11_1
     try clear hfz11_10
     try clear hfz11_2
     try clear hfz11_3
     try clear hfz11_4
     try clear hfz11_5
     try clear hfz11_6
     try clear hfz11_7
     try clear hfz11_8
     try clear hfz11_9
     try clear hfz8_0
     try clear hfz8_1
     try clear hfz8_10
     try clear hfz8_2
     try clear hfz8_3
     try clear hfz8_4
     try clear hfz8_5
     try clear hfz8_6
     try clear hfz8_7
     try clear hfz8_8
     try clear hfz8_9
     try clear p2
     obtain ⟨x8_2,x10_2,x11_2,rfl,HA,HK2,HO_8,HO_10,BK235,HB⟩ := hrel
     cases gk with
     | zero => exact absurd HA.out (by simp [bourneref37_Day.l1])
     | succ k2 =>
      have H := HA.out
      clear HA
      simp only [bourneref37_Day.l1] at H
      by_cases c12 : x11_2 < (l1.length : Int)
      ·rw [if_pos c12] at H
       have c12b0 : decide (x11_2 < (l1.length : Int)) = true := decide_eq_true c12
       clear c12
       by_cases c13 : 0 ≤ x11_2
       ·rw [if_pos c13] at H
        have c13b0 : decide (0 ≤ x11_2) = true := decide_eq_true c13
        clear c13
        replace H := Option.bind_eq_some_iff.mp H
        obtain ⟨t241,A140,H⟩ := H
        replace H : (if (t241.length : Int) = 0 then (bourneref37_Day.j2 k2 l1 x8_2 x10_2 x11_2 t241 0 a0_0 l0_1 a0_2 l0_3 l0_4 l0_5 l0_6 l0_7 l0_8 l0_9 a0_10) else (bourneref37_Day.j2 k2 l1 x8_2 x10_2 x11_2 t241 (mx 0 ((rd_T45 l1 x11_2).f4)) a0_0 l0_1 a0_2 l0_3 l0_4 l0_5 l0_6 l0_7 l0_8 l0_9 a0_10)) = some (r1,r2) := H
        have A14 := Aside0.mk A140
        clear A140
        obtain ⟨ji15,hji15⟩ : ∃ j_ : Int,(mx 0 ((rd_T45 l1 x11_2).f4)) = j_ := ⟨_,rfl⟩
        replace H : (if (t241.length : Int) = 0 then (bourneref37_Day.j2 k2 l1 x8_2 x10_2 x11_2 t241 0 a0_0 l0_1 a0_2 l0_3 l0_4 l0_5 l0_6 l0_7 l0_8 l0_9 a0_10) else (bourneref37_Day.j2 k2 l1 x8_2 x10_2 x11_2 t241 ji15 a0_0 l0_1 a0_2 l0_3 l0_4 l0_5 l0_6 l0_7 l0_8 l0_9 a0_10)) = some (r1,r2) := by first | (rw [hji15] at H;exact H) | (simp only [hji15] at H ⊢;exact H)
        (try rw [hji15] at A14)
        have hji15_ : (if 0 < ((rd_T45 l1 x11_2).f4) then ((rd_T45 l1 x11_2).f4) else 0) = ji15 := hji15
        have HC16 := Aside0.mk H
        clear H
        try go_wp2
        (repeat (rw [drewN_self wr];generalize hq_ : World.drewN wr _ = wr;have n0_ : Aside0 (Kd.R k47 47 wr w.heap.size (fun _ => True) u10 x10_2) := ⟨by rw [← hq_];exact (by (with_reducible repeat (first | apply Kd.R_alloc | apply Kd.R_drewN | apply Kd.R_drew));exact HO_10.out)⟩;have n1_ : Aside0 (Kd.R (Kd.int .i64) 3 wr w.heap.size (fun _ => True) u8 x8_2) := ⟨by rw [← hq_];exact (by (with_reducible repeat (first | apply Kd.R_alloc | apply Kd.R_drewN | apply Kd.R_drew));exact HO_8.out)⟩;have n2_ : Aside0 (wr.heap[gb235]? = some (.cells #[.string a0_0,.slice A0_1 l0_1.length c0_1,.int .i64 a0_2,.slice A0_3 l0_3.length c0_3,.slice A0_4 l0_4.length c0_4,.slice A0_5 l0_5.length c0_5,.slice A0_6 l0_6.length c0_6,.slice A0_7 l0_7.length c0_7,.slice A0_8 l0_8.length c0_8,.slice A0_9 l0_9.length c0_9,.int .i64 a0_10] 31 (0,0))) := ⟨by rw [← hq_];exact (by (with_reducible repeat (first | refine blk_drewN ?_ _ | refine blk_drew ?_ | refine blk_alloc ?_ _));exact BK235.out)⟩;have n3_ : Aside0 (Below w.heap.size w wr) := ⟨by rw [← hq_];exact (by repeat (first | (with_reducible first | exact HB.out | apply below_alloc | apply pw_below_drewN | apply below_drew1 | refine below_set ?_ GE235.out) | exact HB.out))⟩;clear HO_10 HO_8 BK235 HB hq_;have HO_10 := n0_;have HO_8 := n1_;have BK235 := n2_;have HB := n3_;clear n0_ n1_ n2_ n3_))
        have n0_ := Aside0.mk (Kd.R_drew HO_8.out)
        have n1_ := Aside0.mk (Kd.R_drew HO_10.out)
        have n2_ := Aside0.mk (blk_drew BK235.out)
        have n3_ := Aside0.mk (below_drew1 HB.out)
        clear HO_8
        clear HO_10
        clear BK235
        clear HB
        have HO_8 := n0_
        have HO_10 := n1_
        have BK235 := n2_
        have HB := n3_
        clear n0_ n1_ n2_ n3_
        have p240 : 0 ≤ (x11_2 : Int) := of_decide_eq_true (by first | (with_reducible assumption) | assumption)
        have q240 : x11_2 < (l1.length : Int) := of_decide_eq_true (by first | (with_reducible assumption) | assumption)
        obtain ⟨ad240,e240,hx240_0,hx240_1,hx240_2,hx240_3,hx240_4,hx240_5,hx240_6,hx240_7,hx240_8⟩ := at_T45 HR1.out x11_2 p240 q240
        have hw240_8 := hx240_8
        have hw240_7 := hx240_7
        have hw240_6 := hx240_6
        have hw240_5 := hx240_5
        have hw240_4 := hx240_4
        have hw240_3 := hx240_3
        have hw240_2 := hx240_2
        have hw240_1 := hx240_1
        have hw240_0 := hx240_0
        cases e240
        replace hx240_0 := (HB.out.cell (World.block_lt_of_cell? w _ hx240_0)).trans hx240_0
        replace hx240_1 := (HB.out.cell (World.block_lt_of_cell? w _ hx240_1)).trans hx240_1
        replace hx240_2 := (HB.out.cell (World.block_lt_of_cell? w _ hx240_2)).trans hx240_2
        replace hx240_3 := (HB.out.cell (World.block_lt_of_cell? w _ hx240_3)).trans hx240_3
        replace hx240_4 := (HB.out.cell (World.block_lt_of_cell? w _ hx240_4)).trans hx240_4
        replace hx240_5 := (HB.out.cell (World.block_lt_of_cell? w _ hx240_5)).trans hx240_5
        replace hx240_6 := (HB.out.cell (World.block_lt_of_cell? w _ hx240_6)).trans hx240_6
        replace hx240_7 := (HB.out.cell (World.block_lt_of_cell? w _ hx240_7)).trans hx240_7
        replace hx240_8 := (HB.out.cell (World.block_lt_of_cell? w _ hx240_8)).trans hx240_8
        replace p240 := eq_true p240
        replace q240 := eq_true q240
        refine start_ (n := 8) (S := fun w' => w'.cell? ⟨gb235,0,none⟩ = some (.string a0_0) ∧ w'.cell? ⟨gb235,1,none⟩ = some (.slice A0_1 l0_1.length c0_1) ∧ w'.cell? ⟨gb235,2,none⟩ = some (.int .i64 a0_2) ∧ w'.cell? ⟨gb235,3,none⟩ = some (.slice A0_3 l0_3.length c0_3) ∧ w'.cell? ⟨gb235,4,none⟩ = some (.slice A0_4 l0_4.length c0_4) ∧ w'.cell? ⟨gb235,5,none⟩ = some (.slice A0_5 l0_5.length c0_5) ∧ w'.cell? ⟨gb235,6,none⟩ = some (.slice A0_6 l0_6.length c0_6) ∧ w'.cell? ⟨gb235,7,none⟩ = some (.slice A0_7 l0_7.length c0_7) ∧ w'.cell? ⟨gb235,8,none⟩ = some (.slice A0_8 l0_8.length c0_8) ∧ w'.cell? ⟨gb235,9,none⟩ = some (.slice A0_9 l0_9.length c0_9) ∧ w'.cell? ⟨gb235,10,none⟩ = some (.int .i64 a0_10) ∧ w'.cell? (ad240.add ((x11_2).toNat * 9)) = some (.int .i64 ((rd_T45 l1 x11_2).f0)) ∧ w'.cell? ⟨(ad240.add ((x11_2).toNat * 9)).block,(ad240.add ((x11_2).toNat * 9)).off + 1,none⟩ = some (.int .i64 ((rd_T45 l1 x11_2).f1)) ∧ w'.cell? ⟨(ad240.add ((x11_2).toNat * 9)).block,(ad240.add ((x11_2).toNat * 9)).off + 2,none⟩ = some (.int .i64 ((rd_T45 l1 x11_2).f2)) ∧ w'.cell? ⟨(ad240.add ((x11_2).toNat * 9)).block,(ad240.add ((x11_2).toNat * 9)).off + 3,none⟩ = some (.int .i64 ((rd_T45 l1 x11_2).f3)) ∧ w'.cell? ⟨(ad240.add ((x11_2).toNat * 9)).block,(ad240.add ((x11_2).toNat * 9)).off + 4,none⟩ = some (.int .i64 ((rd_T45 l1 x11_2).f4)) ∧ w'.cell? ⟨(ad240.add ((x11_2).toNat * 9)).block,(ad240.add ((x11_2).toNat * 9)).off + 5,none⟩ = some (.int .i64 ((rd_T45 l1 x11_2).f5)) ∧ w'.cell? ⟨(ad240.add ((x11_2).toNat * 9)).block,(ad240.add ((x11_2).toNat * 9)).off + 6,none⟩ = some (.int .i64 ((rd_T45 l1 x11_2).f6)) ∧ w'.cell? ⟨(ad240.add ((x11_2).toNat * 9)).block,(ad240.add ((x11_2).toNat * 9)).off + 7,none⟩ = some (.int .i64 ((rd_T45 l1 x11_2).f7)) ∧ w'.cell? ⟨(ad240.add ((x11_2).toNat * 9)).block,(ad240.add ((x11_2).toNat * 9)).off + 8,none⟩ = some (.int .i64 ((rd_T45 l1 x11_2).f8))) (ds := []) #[false,false,false,false,false,false,false,false] (by kernel_rfl) rfl rfl ⟨(blk_cell BK235.out 0).trans rfl,(blk_cell BK235.out 1).trans rfl,(blk_cell BK235.out 2).trans rfl,(blk_cell BK235.out 3).trans rfl,(blk_cell BK235.out 4).trans rfl,(blk_cell BK235.out 5).trans rfl,(blk_cell BK235.out 6).trans rfl,(blk_cell BK235.out 7).trans rfl,(blk_cell BK235.out 8).trans rfl,(blk_cell BK235.out 9).trans rfl,(blk_cell BK235.out 10).trans rfl,((HB.out.cell (World.block_lt_of_cell? w _ hw240_0)).trans hw240_0),((HB.out.cell (World.block_lt_of_cell? w _ hw240_1)).trans hw240_1),((HB.out.cell (World.block_lt_of_cell? w _ hw240_2)).trans hw240_2),((HB.out.cell (World.block_lt_of_cell? w _ hw240_3)).trans hw240_3),((HB.out.cell (World.block_lt_of_cell? w _ hw240_4)).trans hw240_4),((HB.out.cell (World.block_lt_of_cell? w _ hw240_5)).trans hw240_5),((HB.out.cell (World.block_lt_of_cell? w _ hw240_6)).trans hw240_6),((HB.out.cell (World.block_lt_of_cell? w _ hw240_7)).trans hw240_7),((HB.out.cell (World.block_lt_of_cell? w _ hw240_8)).trans hw240_8)⟩ (fun hHeld => ?_);refine with_tabW bourneref37_Day.tab10 bourneref37_Day.bits10 (fun HT_ HW_ => ?_)
        generalize wr.drew = w17 at HO_8 HO_10 BK235 HB hx240_0 hx240_1 hx240_2 hx240_3 hx240_4 hx240_5 hx240_6 hx240_7 hx240_8 hHeld ⊢
        refine pure_ (i := 1) (N := some 37) (v := ?_) (a' := ?_) #[false,true,false,false,false,false,false,false] rfl rfl (any_of HT_.out (by kernel_rfl)) (fun _ _ _ h => h) (Or.inl ⟨by rfl,?_⟩) ?_ ?_
        rotate_left
        ·intro w'
         go_simp
         with_reducible rfl
        rotate_left
        ·simp only [Act.put,List.setIfInBounds_toArray,List.set_cons_zero,List.set_cons_succ,i64_w,i32_w]
         rfl
        refine pure_ (i := 2) (N := some 38) (v := ?_) (a' := ?_) #[false,true,true,false,false,false,false,false] rfl rfl (any_of HT_.out (by kernel_rfl)) (fun _ _ _ h => h) (Or.inl ⟨by rfl,?_⟩) ?_ ?_
        rotate_left
        ·intro w'
         go_simp
         with_reducible rfl
        rotate_left
        ·simp only [Act.put,List.setIfInBounds_toArray,List.set_cons_zero,List.set_cons_succ,i64_w,i32_w]
         rfl
        refine pure_ (i := 3) (N := some 39) (v := ?_) (a' := ?_) #[false,true,true,true,false,false,false,false] rfl rfl (any_of HT_.out (by kernel_rfl)) (fun _ _ _ h => h) (Or.inl ⟨by rfl,?_⟩) ?_ ?_
        rotate_left
        ·intro w'
         go_simp
         with_reducible rfl
        rotate_left
        ·simp only [Act.put,List.setIfInBounds_toArray,List.set_cons_zero,List.set_cons_succ,i64_w,i32_w]
         rfl
        refine pure_ (i := 4) (N := some 40) (v := ?_) (a' := ?_) #[false,true,true,true,true,false,false,false] rfl rfl (any_of HT_.out (by kernel_rfl)) (fun _ _ _ h => h) (Or.inl ⟨by rfl,?_⟩) ?_ ?_
        rotate_left
        ·intro w'
         go_simp
         with_reducible rfl
        rotate_left
        ·simp only [Act.put,List.setIfInBounds_toArray,List.set_cons_zero,List.set_cons_succ,i64_w,i32_w]
         rfl
        refine take_ (i := 0) (N := some 36) (v := ?_) (a' := ?_) #[true,true,true,true,true,false,false,false] rfl rfl (take_ofW HT_.out HW_.out (by kernel_rfl)) (fun _ _ _ h => h) (Or.inl ⟨by rfl,?_⟩) hHeld ?_ ?_
        rotate_left
        ·rintro w' ⟨s0,s1,s2,s3,s4,s5,s6,s7,s8,s9,s10,s11,s12,s13,s14,s15,s16,s17,s18,s19⟩
         go_simp
         with_reducible rfl
        rotate_left
        ·simp only [Act.put,List.setIfInBounds_toArray,List.set_cons_zero,List.set_cons_succ,i64_w,i32_w]
         rfl
        refine take_ (i := 5) (N := some 41) (v := ?_) (a' := ?_) #[true,true,true,true,true,true,false,false] rfl rfl (take_ofW HT_.out HW_.out (by kernel_rfl)) (fun _ _ _ h => h) (Or.inl ⟨by rfl,?_⟩) hHeld ?_ ?_
        rotate_left
        ·rintro w' ⟨s0,s1,s2,s3,s4,s5,s6,s7,s8,s9,s10,s11,s12,s13,s14,s15,s16,s17,s18,s19⟩
         go_simp
         with_reducible rfl
        rotate_left
        ·simp only [Act.put,List.setIfInBounds_toArray,List.set_cons_zero,List.set_cons_succ,i64_w,i32_w]
         rfl
        refine one_ (i := 6) (N := some 42) #[true,true,true,true,true,true,true,false] rfl rfl (one_of HT_.out (by kernel_rfl)) (by decide) (fun K hK => ?_)
        refine goes_ Try.func14 (by kernel_rfl) rfl #[.agg #[.string a0_0,.slice A0_1 l0_1.length c0_1,.int .i64 a0_2,.slice A0_3 l0_3.length c0_3,.slice A0_4 l0_4.length c0_4,.slice A0_5 l0_5.length c0_5,.slice A0_6 l0_6.length c0_6,.slice A0_7 l0_7.length c0_7,.slice A0_8 l0_8.length c0_8,.slice A0_9 l0_9.length c0_9,.int .i64 a0_10],.int .i64 ((rd_T45 l1 x11_2).f3)] (by rfl) rfl rfl (by (try simp only [List.map_toArray,List.map_cons,List.map_nil]);first | done | rfl | (simp only [List.length_drop,List.length_take];rfl)) ?_
        with_reducible refine (bourneref37_Reach.calls k2 a0_0 _ _ l0_1 a0_2 _ _ l0_3 _ _ l0_4 _ _ l0_5 _ _ l0_6 _ _ l0_7 _ _ l0_8 _ _ l0_9 a0_10 ((rd_T45 l1 x11_2).f3) t241 _ ?side1 ?side2 ?side3 ?side4 ?side5 ?side6 ?side7 ?side8 ?side9 ?side10 ?side11 ?side12 ?side13 ?side14 ?side15 ?side16 A14.out).mono ?_
        (case side1 => repeat (first | exact (Kd.C_below HR0_1.out HB.out) | (with_reducible refine Kd.C_alloc ?_ _) | (with_reducible refine Kd.C_drewN ?_ _) | (with_reducible refine Kd.C_drew ?_)))
        (case side2 => exact HC0_1.out)
        (case side3 => repeat (first | exact (Kd.C_below HR0_3.out HB.out) | (with_reducible refine Kd.C_alloc ?_ _) | (with_reducible refine Kd.C_drewN ?_ _) | (with_reducible refine Kd.C_drew ?_)))
        (case side4 => exact HC0_3.out)
        (case side5 => repeat (first | exact (Kd.C_below HR0_4.out HB.out) | (with_reducible refine Kd.C_alloc ?_ _) | (with_reducible refine Kd.C_drewN ?_ _) | (with_reducible refine Kd.C_drew ?_)))
        (case side6 => exact HC0_4.out)
        (case side7 => repeat (first | exact (Kd.C_below HR0_5.out HB.out) | (with_reducible refine Kd.C_alloc ?_ _) | (with_reducible refine Kd.C_drewN ?_ _) | (with_reducible refine Kd.C_drew ?_)))
        (case side8 => exact HC0_5.out)
        (case side9 => repeat (first | exact (Kd.C_below HR0_6.out HB.out) | (with_reducible refine Kd.C_alloc ?_ _) | (with_reducible refine Kd.C_drewN ?_ _) | (with_reducible refine Kd.C_drew ?_)))
        (case side10 => exact HC0_6.out)
        (case side11 => repeat (first | exact (Kd.C_below HR0_7.out HB.out) | (with_reducible refine Kd.C_alloc ?_ _) | (with_reducible refine Kd.C_drewN ?_ _) | (with_reducible refine Kd.C_drew ?_)))
        (case side12 => exact HC0_7.out)
        (case side13 => repeat (first | exact (Kd.C_below HR0_8.out HB.out) | (with_reducible refine Kd.C_alloc ?_ _) | (with_reducible refine Kd.C_drewN ?_ _) | (with_reducible refine Kd.C_drew ?_)))
        (case side14 => exact HC0_8.out)
        (case side15 => repeat (first | exact (Kd.C_below HR0_9.out HB.out) | (with_reducible refine Kd.C_alloc ?_ _) | (with_reducible refine Kd.C_drewN ?_ _) | (with_reducible refine Kd.C_drew ?_)))
        (case side16 => exact HC0_9.out)
        rintro e w18 ⟨v242,rfl,ho0,hb⟩
        refine ⟨_,rfl,?_⟩
        have n0_ := Aside0.mk (Kd.R_elder' (by (with_reducible repeat (first | apply Kd.R_alloc | apply Kd.R_drewN | apply Kd.R_drew));exact HO_8.out) (Kd.R_base ho0) hb)
        have n1_ := Aside0.mk (Kd.R_below (by (with_reducible repeat (first | apply Kd.R_alloc | apply Kd.R_drewN | apply Kd.R_drew));exact HO_10.out) hb)
        have n2_ := Aside0.mk (Kd.R_lower (Kd.R_new' ho0 (Kd.R_lt (by (with_reducible repeat (first | apply Kd.R_alloc | apply Kd.R_drewN | apply Kd.R_drew));exact HO_8.out))) (below_size (by repeat (first | (with_reducible first | exact HB.out | apply below_alloc | apply pw_below_drewN | apply below_drew1 | refine below_set ?_ GE235.out) | exact HB.out))))
        have n3_ := Aside0.mk (blk_below (g := gb235) (o := .cells #[.string a0_0,.slice A0_1 l0_1.length c0_1,.int .i64 a0_2,.slice A0_3 l0_3.length c0_3,.slice A0_4 l0_4.length c0_4,.slice A0_5 l0_5.length c0_5,.slice A0_6 l0_6.length c0_6,.slice A0_7 l0_7.length c0_7,.slice A0_8 l0_8.length c0_8,.slice A0_9 l0_9.length c0_9,.int .i64 a0_10] 31 (0,0)) (by (with_reducible repeat (first | refine blk_drewN ?_ _ | refine blk_drew ?_ | refine blk_alloc ?_ _));exact BK235.out) hb)
        have n4_ := Aside0.mk (below_step (by repeat (first | (with_reducible first | exact HB.out | apply below_alloc | apply pw_below_drewN | apply below_drew1 | refine below_set ?_ GE235.out) | exact HB.out)) hb)
        clear HO_8
        clear HO_10
        clear BK235
        clear HB
        have HO_8 := n0_
        have HO_10 := n1_
        have HO243 := n2_
        have BK235 := n3_
        have HB := n4_
        clear n0_ n1_ n2_ n3_ n4_
        (try clear hb)
        (try clear hb2)
        (try clear hk)
        (try clear hi)
        (try clear ho0)
        refine hK.out _ _ ⟨(blk_cell BK235.out 0).trans rfl,(blk_cell BK235.out 1).trans rfl,(blk_cell BK235.out 2).trans rfl,(blk_cell BK235.out 3).trans rfl,(blk_cell BK235.out 4).trans rfl,(blk_cell BK235.out 5).trans rfl,(blk_cell BK235.out 6).trans rfl,(blk_cell BK235.out 7).trans rfl,(blk_cell BK235.out 8).trans rfl,(blk_cell BK235.out 9).trans rfl,(blk_cell BK235.out 10).trans rfl,((HB.out.cell (World.block_lt_of_cell? w _ hw240_0)).trans hw240_0),((HB.out.cell (World.block_lt_of_cell? w _ hw240_1)).trans hw240_1),((HB.out.cell (World.block_lt_of_cell? w _ hw240_2)).trans hw240_2),((HB.out.cell (World.block_lt_of_cell? w _ hw240_3)).trans hw240_3),((HB.out.cell (World.block_lt_of_cell? w _ hw240_4)).trans hw240_4),((HB.out.cell (World.block_lt_of_cell? w _ hw240_5)).trans hw240_5),((HB.out.cell (World.block_lt_of_cell? w _ hw240_6)).trans hw240_6),((HB.out.cell (World.block_lt_of_cell? w _ hw240_7)).trans hw240_7),((HB.out.cell (World.block_lt_of_cell? w _ hw240_8)).trans hw240_8)⟩ (fun hHeld => ?_)
        clear hK K
        refine norm_ (a' := ?_) ?_ ?_
        rotate_left
        ·show Act.put _ (some 42) _ = _
         simp only [Act.put,List.setIfInBounds_toArray,List.set_cons_zero,List.set_cons_succ,i64_w,i32_w]
         rfl
        refine pure_ (i := 7) (N := some 12) (v := ?_) (a' := ?_) #[true,true,true,true,true,true,true,true] rfl rfl (any_of HT_.out (by kernel_rfl)) (fun _ _ _ h => h) (Or.inl ⟨by rfl,?_⟩) ?_ ?_
        rotate_left
        ·intro w'
         go_simp
         with_reducible rfl
        rotate_left
        ·simp only [Act.put,List.setIfInBounds_toArray,List.set_cons_zero,List.set_cons_succ,i64_w,i32_w]
         rfl
        refine done_ (done_of HT_.out (by kernel_rfl)) ?_
        have p244 : 0 ≤ (x11_2 : Int) := of_decide_eq_true (by first | (with_reducible assumption) | assumption)
        have q244 : x11_2 < (l1.length : Int) := of_decide_eq_true (by first | (with_reducible assumption) | assumption)
        obtain ⟨ad244,e244,hx244_0,hx244_1,hx244_2,hx244_3,hx244_4,hx244_5,hx244_6,hx244_7,hx244_8⟩ := at_T45 HR1.out x11_2 p244 q244
        obtain rfl : ad240 = ad244 := (by injection e244)
        replace hx244_0 := (HB.out.cell (World.block_lt_of_cell? w _ hx244_0)).trans hx244_0
        replace hx244_1 := (HB.out.cell (World.block_lt_of_cell? w _ hx244_1)).trans hx244_1
        replace hx244_2 := (HB.out.cell (World.block_lt_of_cell? w _ hx244_2)).trans hx244_2
        replace hx244_3 := (HB.out.cell (World.block_lt_of_cell? w _ hx244_3)).trans hx244_3
        replace hx244_4 := (HB.out.cell (World.block_lt_of_cell? w _ hx244_4)).trans hx244_4
        replace hx244_5 := (HB.out.cell (World.block_lt_of_cell? w _ hx244_5)).trans hx244_5
        replace hx244_6 := (HB.out.cell (World.block_lt_of_cell? w _ hx244_6)).trans hx244_6
        replace hx244_7 := (HB.out.cell (World.block_lt_of_cell? w _ hx244_7)).trans hx244_7
        replace hx244_8 := (HB.out.cell (World.block_lt_of_cell? w _ hx244_8)).trans hx244_8
        replace p244 := eq_true p244
        replace q244 := eq_true q244
        obtain ⟨Ao19,co19,eo19⟩ := Kd.R_slice HO243.out
        subst eo19
        go_upto_if 51 with (fail)
        go_cut [13] (fun v13 wc => ∃ (kq : Nat) (x13_15 : Int),v13 = .int .i64 x13_15 ∧ Aside0 (bourneref37_Day.j2 kq l1 x8_2 x10_2 x11_2 t241 x13_15 a0_0 l0_1 a0_2 l0_3 l0_4 l0_5 l0_6 l0_7 l0_8 l0_9 a0_10 = some (r1,r2)) ∧ Aside0 (kq ≤ k2) ∧ Aside0 (Kd.R (Kd.int .i64) 3 wc w.heap.size (fun k_ => some k_ ≠ ((.slice Ao19 t241.length co19) : Value).ownBlock) u8 x8_2) ∧ Aside0 (Kd.R k47 47 wc w.heap.size (fun _ => True) u10 x10_2) ∧ Aside0 (Kd.R (Kd.int .i64) 3 wc w.heap.size (fun k_ => some k_ ≠ (u8 : Value).ownBlock) (.slice Ao19 t241.length co19) t241) ∧ Aside0 (wc.heap[gb235]? = some (.cells #[.string a0_0,(.slice A0_1 l0_1.length c0_1),.int .i64 a0_2,(.slice A0_3 l0_3.length c0_3),(.slice A0_4 l0_4.length c0_4),(.slice A0_5 l0_5.length c0_5),(.slice A0_6 l0_6.length c0_6),(.slice A0_7 l0_7.length c0_7),(.slice A0_8 l0_8.length c0_8),(.slice A0_9 l0_9.length c0_9),.int .i64 a0_10] 31 (0,0))) ∧ Aside0 (Below w.heap.size w wc))
        case first =>
         have H := HC16.out
         clear HC16
         by_cases c20 : (t241.length : Int) = 0
         ·rw [if_pos c20] at H
          have c20b0 : ((t241.length : Int) == 0) = true := beq_iff_eq.mpr c20
          have c20b1 : ((t241.length : Int) != 0) = false := bne_eq_false_iff_eq.mpr c20
          clear c20
          (first | rw [c20b0] | (simp only [i64_w,i32_w];rw [c20b0]) | skip)
          have H' := Aside0.mk H
          clear H
          go_wp2
          go_meet
          case rel => exact ⟨_,(0),(by first | rfl | (simp;done) | (simp [*];done)),H',⟨by have := HK1.out;have := HK2.out;first | omega | exact Nat.le_refl _⟩,⟨by (with_reducible repeat (first | apply Kd.R_alloc | apply Kd.R_drewN | apply Kd.R_drew));exact Kd.R_mono HO_8.out (fun _ hk => hk.2)⟩,⟨by (with_reducible repeat (first | apply Kd.R_alloc | apply Kd.R_drewN | apply Kd.R_drew));exact HO_10.out⟩,⟨by (with_reducible repeat (first | apply Kd.R_alloc | apply Kd.R_drewN | apply Kd.R_drew));exact Kd.R_mono HO243.out (fun _ hk => hk.2)⟩,⟨by (with_reducible repeat (first | refine blk_drewN ?_ _ | refine blk_drew ?_ | refine blk_alloc ?_ _));exact BK235.out⟩,⟨by repeat (first | (with_reducible first | exact HB.out | apply below_alloc | apply pw_below_drewN | apply below_drew1 | refine below_set ?_ GE235.out) | exact HB.out)⟩⟩
         ·rw [if_neg c20] at H
          have c20b0 : ((t241.length : Int) == 0) = false := beq_eq_false_iff_ne.mpr c20
          have c20b1 : ((t241.length : Int) != 0) = true := bne_iff_ne.mpr c20
          have c20b2 : ¬ (t241 = []) := fun h_ => c20 (by rw [h_];rfl)
          (first | rw [c20b0] | (simp only [i64_w,i32_w];rw [c20b0]) | skip)
          have H' := Aside0.mk H
          clear H
          go_wp2
          go_meet
          case rel => exact ⟨_,(ji15),(by first | rfl | (simp;done) | (simp only [← hji15] <;> (first | rfl | simp)) | (simp [*];done)),H',⟨by have := HK1.out;have := HK2.out;first | omega | exact Nat.le_refl _⟩,⟨by (with_reducible repeat (first | apply Kd.R_alloc | apply Kd.R_drewN | apply Kd.R_drew));exact Kd.R_mono HO_8.out (fun _ hk => hk.2)⟩,⟨by (with_reducible repeat (first | apply Kd.R_alloc | apply Kd.R_drewN | apply Kd.R_drew));exact HO_10.out⟩,⟨by (with_reducible repeat (first | apply Kd.R_alloc | apply Kd.R_drewN | apply Kd.R_drew));exact Kd.R_mono HO243.out (fun _ hk => hk.2)⟩,⟨by (with_reducible repeat (first | refine blk_drewN ?_ _ | refine blk_drew ?_ | refine blk_alloc ?_ _));exact BK235.out⟩,⟨by repeat (first | (with_reducible first | exact HB.out | apply below_alloc | apply pw_below_drewN | apply below_drew1 | refine below_set ?_ GE235.out) | exact HB.out)⟩⟩
        case rest =>
         clear HC16
         try clear c1
         try clear c2
         try clear p2
         try clear q2
         try clear hx2
         try clear c5
         try clear c5b0
         try clear p6
         try clear c7
         try clear c11
         try clear c12
         try clear c12b0
         try clear c13
         try clear c13b0
         try clear c14
         try clear c19
         try clear c20
         try clear c20b0
         try clear c20b1
         try clear c20b2
         try clear hcz11_0
         try clear hcz11_1
         try clear hcz11_10
         try clear hcz11_2
         try clear hcz11_3
         try clear hcz11_4
         try clear hcz11_5
         try clear hcz11_6
         try clear hcz11_7
         try clear hcz11_8
         try clear hcz11_9
         try clear hcz8_0
         try clear hcz8_1
         try clear hcz8_10
         try clear hcz8_2
         try clear hcz8_3
         try clear hcz8_4
         try clear hcz8_5
         try clear hcz8_6
         try clear hcz8_7
         try clear hcz8_8
         try clear hcz8_9
         try clear hfz11_0
         try clear hfz11_1
         try clear hfz11_10
         try clear hfz11_2
         try clear hfz11_3
         try clear hfz11_4
         try clear hfz11_5
         try clear hfz11_6
         try clear hfz11_7
         try clear hfz11_8
         try clear hfz11_9
         try clear hfz8_0
         try clear hfz8_1
         try clear hfz8_10
         try clear hfz8_2
         try clear hfz8_3
         try clear hfz8_4
         try clear hfz8_5
         try clear hfz8_6
         try clear hfz8_7
         try clear hfz8_8
         try clear hfz8_9
         try clear hx240_0
         try clear hx240_1
         try clear hx240_2
         try clear hx240_3
         try clear hx240_4
         try clear hx240_5
         try clear hx240_6
         try clear hx240_7
         try clear hx240_8
         try clear hx244_0
         try clear hx244_1
         try clear hx244_2
         try clear hx244_3
         try clear hx244_4
         try clear hx244_5
         try clear hx244_6
         try clear hx244_7
         try clear hx244_8
         try clear p2
         try clear p240
         try clear p244
         try clear p6
         try clear q240
         try clear q244
         obtain ⟨kq,x13_15,rfl,HA,HJ15,HO_8,HO_10,HO_12,BK235,HB⟩ := hcut
         cases kq with
         | zero => exact absurd HA.out (by simp [bourneref37_Day.j2])
         | succ kj15 =>
          have H := HA.out
          clear HA
          simp only [bourneref37_Day.j2] at H
          have H' := Aside0.mk H
          clear H
          go_wp2
          go_loopg [13,14] kj15 (fun kq v13 v14 w' => ∃ (x13_4 : Int) (x14_4 : Int),v13 = .int .i64 x13_4 ∧ v14 = .int .i64 x14_4 ∧ Aside0 (bourneref37_Day.l2 kq l1 x8_2 x10_2 x11_2 t241 x13_4 x14_4 a0_0 l0_1 a0_2 l0_3 l0_4 l0_5 l0_6 l0_7 l0_8 l0_9 a0_10 = some (r1,r2)) ∧ Aside0 (kq ≤ kj15) ∧ Aside0 (Kd.R (Kd.int .i64) 3 w' w.heap.size (fun k_ => some k_ ≠ ((.slice Ao19 t241.length co19) : Value).ownBlock) u8 x8_2) ∧ Aside0 (Kd.R k47 47 w' w.heap.size (fun _ => True) u10 x10_2) ∧ Aside0 (Kd.R (Kd.int .i64) 3 w' w.heap.size (fun k_ => some k_ ≠ (u8 : Value).ownBlock) (.slice Ao19 t241.length co19) t241) ∧ Aside0 (w'.heap[gb235]? = some (.cells #[.string a0_0,(.slice A0_1 l0_1.length c0_1),.int .i64 a0_2,(.slice A0_3 l0_3.length c0_3),(.slice A0_4 l0_4.length c0_4),(.slice A0_5 l0_5.length c0_5),(.slice A0_6 l0_6.length c0_6),(.slice A0_7 l0_7.length c0_7),(.slice A0_8 l0_8.length c0_8),(.slice A0_9 l0_9.length c0_9),.int .i64 a0_10] 31 (0,0))) ∧ Aside0 (Below w.heap.size w w'))
          case atStart => exact ⟨(x13_15),(0),(by first | rfl | (simp;done) | (simp [*];done)),(by first | rfl | (simp;done) | (simp [*];done)),H',⟨Nat.le_refl _⟩,⟨by (with_reducible repeat (first | apply Kd.R_alloc | apply Kd.R_drewN | apply Kd.R_drew));exact HO_8.out⟩,⟨by (with_reducible repeat (first | apply Kd.R_alloc | apply Kd.R_drewN | apply Kd.R_drew));exact HO_10.out⟩,⟨by (with_reducible repeat (first | apply Kd.R_alloc | apply Kd.R_drewN | apply Kd.R_drew));exact HO_12.out⟩,⟨by (with_reducible repeat (first | refine blk_drewN ?_ _ | refine blk_drew ?_ | refine blk_alloc ?_ _));exact BK235.out⟩,⟨by repeat (first | (with_reducible first | exact HB.out | apply below_alloc | apply pw_below_drewN | apply below_drew1 | refine below_set ?_ GE235.out) | exact HB.out)⟩⟩
          case round =>
           clear H'
           try clear c1
           try clear c2
           try clear p2
           try clear q2
           try clear hx2
           try clear c5
           try clear c5b0
           try clear p6
           try clear c7
           try clear c11
           try clear c12
           try clear c12b0
           try clear c13
           try clear c13b0
           try clear c14
           try clear c19
           try clear c20
           try clear c20b0
           try clear c20b1
           try clear c20b2
           try clear hcz11_0
           try clear hcz11_1
           try clear hcz11_10
           try clear hcz11_2
           try clear hcz11_3
           try clear hcz11_4
           try clear hcz11_5
           try clear hcz11_6
           try clear hcz11_7
           try clear hcz11_8
           try clear hcz11_9
           try clear hcz8_0
           try clear hcz8_1
           try clear hcz8_10
           try clear hcz8_2
           try clear hcz8_3
           try clear hcz8_4
           try clear hcz8_5
           try clear hcz8_6
           try clear hcz8_7
           try clear hcz8_8
           try clear hcz8_9
           try clear hfz11_0
           try clear hfz11_1
           try clear hfz11_10
           try clear hfz11_2
           try clear hfz11_3
           try clear hfz11_4
           try clear hfz11_5
           try clear hfz11_6
           try clear hfz11_7
           try clear hfz11_8
           try clear hfz11_9
           try clear hfz8_0
           try clear hfz8_1
           try clear hfz8_10
           try clear hfz8_2
           try clear hfz8_3
           try clear hfz8_4
           try clear hfz8_5
           try clear hfz8_6
           try clear hfz8_7
           try clear hfz8_8
           try clear hfz8_9
           try clear hx240_0
           try clear hx240_1
           try clear hx240_2
           try clear hx240_3
           try clear hx240_4
           try clear hx240_5
           try clear hx240_6
           try clear hx240_7
           try clear hx240_8
           try clear hx244_0
           try clear hx244_1
           try clear hx244_2
           try clear hx244_3
           try clear hx244_4
           try clear hx244_5
           try clear hx244_6
           try clear hx244_7
           try clear hx244_8
           try clear p2
           try clear p240
           try clear p244
           try clear p6
           try clear q2
           try clear q240
           try clear q244
           obtain ⟨x13_4,x14_4,rfl,rfl,HA,HK4,HO_8,HO_10,HO_12,BK235,HB⟩ := hrel
           cases gk with
           | zero => exact absurd HA.out (by simp [bourneref37_Day.l2])
           | succ k4 =>
            have H := HA.out
            clear HA
            simp only [bourneref37_Day.l2] at H
            by_cases c21 : x14_4 < (t241.length : Int)
            ·rw [if_pos c21] at H
             have c21b0 : decide (x14_4 < (t241.length : Int)) = true := decide_eq_true c21
             clear c21
             by_cases c22 : 0 ≤ x14_4
             ·rw [if_pos c22] at H
              have c22b0 : decide (0 ≤ x14_4) = true := decide_eq_true c22
              clear c22
              by_cases c23 : 0 ≤ (rd t241 x14_4)
              ·rw [if_pos c23] at H
               have c23b0 : decide (0 ≤ (rd t241 x14_4)) = true := decide_eq_true c23
               clear c23
               by_cases c24 : (rd t241 x14_4) < (x8_2.length : Int)
               ·rw [if_pos c24] at H
                have c24b0 : decide ((rd t241 x14_4) < (x8_2.length : Int)) = true := decide_eq_true c24
                clear c24
                obtain ⟨ji25,hji25⟩ : ∃ j_ : Int,(mn x13_4 (rd x8_2 (rd t241 x14_4))) = j_ := ⟨_,rfl⟩
                replace H : (bourneref37_Day.l2 k4 l1 x8_2 x10_2 x11_2 t241 ji25 (wrap64 (x14_4 + 1)) a0_0 l0_1 a0_2 l0_3 l0_4 l0_5 l0_6 l0_7 l0_8 l0_9 a0_10) = some (r1,r2) := by first | (rw [hji25] at H;exact H) | (simp only [hji25] at H ⊢;exact H)
                have hji25_ : (if (rd x8_2 (rd t241 x14_4)) < x13_4 then (rd x8_2 (rd t241 x14_4)) else x13_4) = ji25 := hji25
                have H' := Aside0.mk H
                clear H
                have p245 : 0 ≤ (x14_4 : Int) := of_decide_eq_true (by first | (with_reducible assumption) | assumption)
                have q245 : x14_4 < (t241.length : Int) := of_decide_eq_true (by first | (with_reducible assumption) | assumption)
                obtain ⟨ad245,e245,hx245_0⟩ := Kd.at_int (Kd.R_reads' HO_12.out).2.2 x14_4 p245 q245
                cases e245
                replace p245 := eq_true p245
                replace q245 := eq_true q245
                obtain ⟨Ao26,co26,eo26⟩ := Kd.R_slice HO_8.out
                subst eo26
                have p246 : 0 ≤ ((rd t241 x14_4) : Int) := of_decide_eq_true (by first | (with_reducible assumption) | assumption)
                have q246 : (rd t241 x14_4) < (x8_2.length : Int) := of_decide_eq_true (by first | (with_reducible assumption) | assumption)
                obtain ⟨ad246,e246,hx246_0⟩ := Kd.at_int (Kd.R_reads' HO_8.out).2.2 (rd t241 x14_4) p246 q246
                cases e246
                replace p246 := eq_true p246
                replace q246 := eq_true q246
                go_wp2
                go_roundg k4
                case measure => have := HK1.out;have := HK2.out;have := HJ15.out;have := HK4.out;omega
                case rel => exact ⟨(ji25),(wrap64 (x14_4 + 1)),(by first | rfl | (simp;done) | (simp only [← hji25] <;> (first | rfl | simp)) | (simp [*];done)),(by first | rfl | (simp;done) | (simp [*];done)),H',⟨by have := HK1.out;have := HK2.out;have := HJ15.out;have := HK4.out;omega⟩,⟨by (with_reducible repeat (first | apply Kd.R_alloc | apply Kd.R_drewN | apply Kd.R_drew));exact HO_8.out⟩,⟨by (with_reducible repeat (first | apply Kd.R_alloc | apply Kd.R_drewN | apply Kd.R_drew));exact HO_10.out⟩,⟨by (with_reducible repeat (first | apply Kd.R_alloc | apply Kd.R_drewN | apply Kd.R_drew));exact HO_12.out⟩,⟨by (with_reducible repeat (first | refine blk_drewN ?_ _ | refine blk_drew ?_ | refine blk_alloc ?_ _));exact BK235.out⟩,⟨by repeat (first | (with_reducible first | exact HB.out | apply below_alloc | apply pw_below_drewN | apply below_drew1 | refine below_set ?_ GE235.out) | exact HB.out)⟩⟩
               ·rw [if_neg c24] at H
                exact absurd H (by simp)
              ·rw [if_neg c23] at H
               exact absurd H (by simp)
             ·rw [if_neg c22] at H
              exact absurd H (by simp)
            ·rw [if_neg c21] at H
             have c21b0 : decide (x14_4 < (t241.length : Int)) = false := decide_eq_false c21
             clear c21
             have H' := Aside0.mk H
             clear H
             go_wp2
             go_loopg [15] k4 (fun kq v15 w' => ∃ (x8_5 : List Int) (x15_5 : Int),v15 = .int .i64 x15_5 ∧ Aside0 (bourneref37_Day.l3 kq l1 x8_5 x10_2 x11_2 t241 x13_4 x15_5 a0_0 l0_1 a0_2 l0_3 l0_4 l0_5 l0_6 l0_7 l0_8 l0_9 a0_10 = some (r1,r2)) ∧ Aside0 (kq ≤ k4) ∧ Aside0 (Kd.R (Kd.int .i64) 3 w' w.heap.size (fun k_ => some k_ ≠ ((.slice Ao19 t241.length co19) : Value).ownBlock) u8 x8_5) ∧ Aside0 (Kd.R k47 47 w' w.heap.size (fun _ => True) u10 x10_2) ∧ Aside0 (Kd.R (Kd.int .i64) 3 w' w.heap.size (fun k_ => some k_ ≠ (u8 : Value).ownBlock) (.slice Ao19 t241.length co19) t241) ∧ Aside0 (w'.heap[gb235]? = some (.cells #[.string a0_0,(.slice A0_1 l0_1.length c0_1),.int .i64 a0_2,(.slice A0_3 l0_3.length c0_3),(.slice A0_4 l0_4.length c0_4),(.slice A0_5 l0_5.length c0_5),(.slice A0_6 l0_6.length c0_6),(.slice A0_7 l0_7.length c0_7),(.slice A0_8 l0_8.length c0_8),(.slice A0_9 l0_9.length c0_9),.int .i64 a0_10] 31 (0,0))) ∧ Aside0 (Below w.heap.size w w'))
             case atStart => exact ⟨(x8_2),(0),(by first | rfl | (simp;done) | (simp [*];done)),H',⟨Nat.le_refl _⟩,⟨by (with_reducible repeat (first | apply Kd.R_alloc | apply Kd.R_drewN | apply Kd.R_drew));exact HO_8.out⟩,⟨by (with_reducible repeat (first | apply Kd.R_alloc | apply Kd.R_drewN | apply Kd.R_drew));exact HO_10.out⟩,⟨by (with_reducible repeat (first | apply Kd.R_alloc | apply Kd.R_drewN | apply Kd.R_drew));exact HO_12.out⟩,⟨by (with_reducible repeat (first | refine blk_drewN ?_ _ | refine blk_drew ?_ | refine blk_alloc ?_ _));exact BK235.out⟩,⟨by repeat (first | (with_reducible first | exact HB.out | apply below_alloc | apply pw_below_drewN | apply below_drew1 | refine below_set ?_ GE235.out) | exact HB.out)⟩⟩
             case round =>
              clear H'
              try clear c1
              try clear c2
              try clear p2
              try clear q2
              try clear hx2
              try clear c5
              try clear c5b0
              try clear p6
              try clear c7
              try clear c11
              try clear c12
              try clear c12b0
              try clear c13
              try clear c13b0
              try clear c14
              try clear c19
              try clear c20
              try clear c20b0
              try clear c20b1
              try clear c20b2
              try clear c21
              try clear c21b0
              try clear c22
              try clear c22b0
              try clear c23
              try clear c23b0
              try clear c24
              try clear c24b0
              try clear p24
              try clear q24
              try clear hx24
              try clear hcz11_0
              try clear hcz11_1
              try clear hcz11_10
              try clear hcz11_2
              try clear hcz11_3
              try clear hcz11_4
              try clear hcz11_5
              try clear hcz11_6
              try clear hcz11_7
              try clear hcz11_8
              try clear hcz11_9
              try clear hcz8_0
              try clear hcz8_1
              try clear hcz8_10
              try clear hcz8_2
              try clear hcz8_3
              try clear hcz8_4
              try clear hcz8_5
              try clear hcz8_6
              try clear hcz8_7
              try clear hcz8_8
              try clear hcz8_9
              try clear hfz11_0
              try clear hfz11_1
              try clear hfz11_10
              try clear hfz11_2
              try clear hfz11_3
              try clear hfz11_4
              try clear hfz11_5
              try clear hfz11_6
              try clear hfz11_7
              try clear hfz11_8
              try clear hfz11_9
              try clear hfz8_0
              try clear hfz8_1
              try clear hfz8_10
              try clear hfz8_2
              try clear hfz8_3
              try clear hfz8_4
              try clear hfz8_5
              try clear hfz8_6
              try clear hfz8_7
              try clear hfz8_8
              try clear hfz8_9
              try clear hx240_0
              try clear hx240_1
              try clear hx240_2
              try clear hx240_3
              try clear hx240_4
              try clear hx240_5
              try clear hx240_6
              try clear hx240_7
              try clear hx240_8
              try clear hx244_0
              try clear hx244_1
              try clear hx244_2
              try clear hx244_3
              try clear hx244_4
              try clear hx244_5
              try clear hx244_6
              try clear hx244_7
              try clear hx244_8
              try clear hx245_0
              try clear hx246_0
              try clear p2
              try clear p240
              try clear p244
              try clear p245
              try clear p246
              try clear p6
              try clear q2
              try clear q240
              try clear q244
              try clear q245
              try clear q246
              obtain ⟨x8_5,x15_5,rfl,HA,HK5,HO_8,HO_10,HO_12,BK235,HB⟩ := hrel
              cases gk with
              | zero => exact absurd HA.out (by simp [bourneref37_Day.l3])
              | succ k5 =>
               have H := HA.out
               clear HA
               simp only [bourneref37_Day.l3] at H
               by_cases c27 : x15_5 < (t241.length : Int)
               ·rw [if_pos c27] at H
                have c27b0 : decide (x15_5 < (t241.length : Int)) = true := decide_eq_true c27
                clear c27
                by_cases c28 : 0 ≤ x15_5
                ·rw [if_pos c28] at H
                 have c28b0 : decide (0 ≤ x15_5) = true := decide_eq_true c28
                 clear c28
                 by_cases c29 : 0 ≤ (rd t241 x15_5)
                 ·rw [if_pos c29] at H
                  have c29b0 : decide (0 ≤ (rd t241 x15_5)) = true := decide_eq_true c29
                  clear c29
                  by_cases c30 : (rd t241 x15_5) < (x8_5.length : Int)
                  ·rw [if_pos c30] at H
                   have c30b0 : decide ((rd t241 x15_5) < (x8_5.length : Int)) = true := decide_eq_true c30
                   clear c30
                   obtain ⟨y250,hy250⟩ : ∃ y_ : List Int,y_ = (x8_5.set ((rd t241 x15_5) : Int).toNat (wrap64 ((rd x8_5 (rd t241 x15_5)) - x13_4))) := ⟨_,rfl⟩
                   replace H : (bourneref37_Day.l3 k5 l1 y250 x10_2 x11_2 t241 x13_4 (wrap64 (x15_5 + 1)) a0_0 l0_1 a0_2 l0_3 l0_4 l0_5 l0_6 l0_7 l0_8 l0_9 a0_10) = some (r1,r2) := by first | (rw [hy250];with_reducible exact H) | (have H2_ := (Option.bind_some _ _).symm.trans H;rw [hy250];with_reducible exact H2_) | (have H2_ := (Option.bind_some _ _).symm.trans H;with_reducible exact H2_) | with_reducible exact H | (rw [hy250];exact H) | exact H
                   have Ny250 := Aside0.mk hy250
                   clear hy250
                   have H' := Aside0.mk H
                   clear H
                   try go_wp2
                   (repeat (rw [drewN_self wr];generalize hq_ : World.drewN wr _ = wr;have n0_ : Aside0 (Kd.R k47 47 wr w.heap.size (fun _ => True) u10 x10_2) := ⟨by rw [← hq_];exact (by (with_reducible repeat (first | apply Kd.R_alloc | apply Kd.R_drewN | apply Kd.R_drew));exact HO_10.out)⟩;have n1_ : Aside0 (Kd.R (Kd.int .i64) 3 wr w.heap.size (fun k_ => some k_ ≠ (u8 : Value).ownBlock) (.slice Ao19 t241.length co19) t241) := ⟨by rw [← hq_];exact (by (with_reducible repeat (first | apply Kd.R_alloc | apply Kd.R_drewN | apply Kd.R_drew));exact HO_12.out)⟩;have n2_ : Aside0 (Kd.R (Kd.int .i64) 3 wr w.heap.size (fun k_ => some k_ ≠ (.slice Ao19 t241.length co19 : Value).ownBlock) u8 x8_5) := ⟨by rw [← hq_];exact (by (with_reducible repeat (first | apply Kd.R_alloc | apply Kd.R_drewN | apply Kd.R_drew));exact HO_8.out)⟩;have n3_ : Aside0 (wr.heap[gb235]? = some (.cells #[.string a0_0,.slice A0_1 l0_1.length c0_1,.int .i64 a0_2,.slice A0_3 l0_3.length c0_3,.slice A0_4 l0_4.length c0_4,.slice A0_5 l0_5.length c0_5,.slice A0_6 l0_6.length c0_6,.slice A0_7 l0_7.length c0_7,.slice A0_8 l0_8.length c0_8,.slice A0_9 l0_9.length c0_9,.int .i64 a0_10] 31 (0,0))) := ⟨by rw [← hq_];exact (by (with_reducible repeat (first | refine blk_drewN ?_ _ | refine blk_drew ?_ | refine blk_alloc ?_ _));exact BK235.out)⟩;have n4_ : Aside0 (Below w.heap.size w wr) := ⟨by rw [← hq_];exact (by repeat (first | (with_reducible first | exact HB.out | apply below_alloc | apply pw_below_drewN | apply below_drew1 | refine below_set ?_ GE235.out) | exact HB.out))⟩;clear HO_10 HO_12 HO_8 BK235 HB hq_;have HO_10 := n0_;have HO_12 := n1_;have HO_8 := n2_;have BK235 := n3_;have HB := n4_;clear n0_ n1_ n2_ n3_ n4_))
                   have n0_ := Aside0.mk (Kd.R_drew HO_8.out)
                   have n1_ := Aside0.mk (Kd.R_drew HO_10.out)
                   have n2_ := Aside0.mk (Kd.R_drew HO_12.out)
                   have n3_ := Aside0.mk (blk_drew BK235.out)
                   have n4_ := Aside0.mk (below_drew1 HB.out)
                   clear HO_8
                   clear HO_10
                   clear HO_12
                   clear BK235
                   clear HB
                   have HO_8 := n0_
                   have HO_10 := n1_
                   have HO_12 := n2_
                   have BK235 := n3_
                   have HB := n4_
                   clear n0_ n1_ n2_ n3_ n4_
                   have p247 : 0 ≤ (x15_5 : Int) := of_decide_eq_true (by first | (with_reducible assumption) | assumption)
                   have q247 : x15_5 < (t241.length : Int) := of_decide_eq_true (by first | (with_reducible assumption) | assumption)
                   obtain ⟨ad247,e247,hx247_0⟩ := Kd.at_int (Kd.R_reads' HO_12.out).2.2 x15_5 p247 q247
                   cases e247
                   replace p247 := eq_true p247
                   replace q247 := eq_true q247
                   have p248 : 0 ≤ (x15_5 : Int) := of_decide_eq_true (by first | (with_reducible assumption) | assumption)
                   have q248 : x15_5 < (t241.length : Int) := of_decide_eq_true (by first | (with_reducible assumption) | assumption)
                   obtain ⟨ad248,e248,hx248_0⟩ := Kd.at_int (Kd.R_reads' HO_12.out).2.2 x15_5 p248 q248
                   obtain rfl : ad247 = ad248 := (by injection e248)
                   replace p248 := eq_true p248
                   replace q248 := eq_true q248
                   obtain ⟨Ao33,co33,eo33⟩ := Kd.R_slice HO_8.out
                   (first | subst eo33 | (injection eo33 with f1_ f2_ f3_;have f4_ := f1_.symm;have f5_ := f3_.symm;clear f1_ f2_ f3_;subst f4_;subst f5_))
                   have p249 : 0 ≤ ((rd t241 x15_5) : Int) := of_decide_eq_true (by first | (with_reducible assumption) | assumption)
                   have q249 : (rd t241 x15_5) < (x8_5.length : Int) := of_decide_eq_true (by first | (with_reducible assumption) | assumption)
                   obtain ⟨ad249,e249,hx249_0⟩ := Kd.at_int (Kd.R_reads' HO_8.out).2.2 (rd t241 x15_5) p249 q249
                   cases e249
                   replace p249 := eq_true p249
                   replace q249 := eq_true q249
                   have p31 : 0 ≤ ((rd t241 x15_5) : Int) := of_decide_eq_true (by first | (with_reducible assumption) | assumption)
                   have q31 : ((rd t241 x15_5) : Int) < ((x8_5.length : Int) : Int) := of_decide_eq_true (by first | (with_reducible assumption) | assumption)
                   obtain ⟨go31,co31,eo31,gb31,gl31,cl31,HG31⟩ := Kd.R_form HO_8.out (by omega)
                   (first | cases eo31 | (injection eo31 with ea_ en_ ec_;(first | subst ea_ | (injection ea_ with ea_;subst ea_));subst ec_;clear en_))
                   have GB31 := Aside0.mk gb31
                   have GG31 := Aside0.mk HG31
                   clear gb31 gl31 HG31
                   (first | simp only [add_plain] at hx249_0 | skip)
                   obtain ⟨hx31_0,hf31_0⟩ := Kd.R_celln 0 HO_8.out ((rd t241 x15_5) : Int) p31 q31
                   replace p31 := eq_true p31
                   replace q31 := eq_true q31
                   have HP34 := Kd.R_putn HO_8.out ((rd t241 x15_5) : Int) (wrap64 ((rd x8_5 (rd t241 x15_5)) - x13_4))
                   rw [← Ny250.out] at HP34
                   have HQ34 := Aside0.mk HP34
                   clear HP34
                   refine start_ (n := 16) (S := fun w' => w'.cell? (ad247.add (x15_5).toNat) = some (.int .i64 (rd t241 x15_5)) ∧ w'.cell? (ad247.add (x15_5).toNat) = some (.int .i64 (rd t241 x15_5)) ∧ w'.cell? ⟨go31,((rd t241 x15_5)).toNat,none⟩ = some (.int .i64 (rd x8_5 (rd t241 x15_5)))) (ds := [15]) #[false,false,false,false,false,false,false,false,false,false,false,false,false,false,false,false] (by kernel_rfl) rfl rfl ⟨hx247_0,hx248_0,hx249_0⟩ (fun hHeld => ?_);refine with_tabW bourneref37_Day.tab21 bourneref37_Day.bits21 (fun HT_ HW_ => ?_)
                   generalize wr.drew = w32 at HO_8 HO_10 HO_12 BK235 HB GG31 HQ34 hf31_0 hx247_0 hx248_0 hx249_0 hx31_0 hHeld ⊢
                   refine pure_ (i := 0) (N := some 73) (v := ?_) (a' := ?_) #[true,false,false,false,false,false,false,false,false,false,false,false,false,false,false,false] rfl rfl (any_of HT_.out (by kernel_rfl)) (fun _ _ _ h => h) (Or.inl ⟨by rfl,?_⟩) ?_ ?_
                   rotate_left
                   ·intro w'
                    go_simp
                    with_reducible rfl
                   rotate_left
                   ·simp only [Act.put,List.setIfInBounds_toArray,List.set_cons_zero,List.set_cons_succ,i64_w,i32_w]
                    rfl
                   refine pure_ (i := 1) (N := some 74) (v := ?_) (a' := ?_) #[true,true,false,false,false,false,false,false,false,false,false,false,false,false,false,false] rfl rfl (any_of HT_.out (by kernel_rfl)) (fun _ _ _ h => h) (Or.inl ⟨by rfl,?_⟩) ?_ ?_
                   rotate_left
                   ·intro w'
                    go_simp
                    with_reducible rfl
                   rotate_left
                   ·simp only [Act.put,List.setIfInBounds_toArray,List.set_cons_zero,List.set_cons_succ,i64_w,i32_w]
                    rfl
                   refine pure_ (i := 2) (N := some 75) (v := ?_) (a' := ?_) #[true,true,true,false,false,false,false,false,false,false,false,false,false,false,false,false] rfl rfl (any_of HT_.out (by kernel_rfl)) (fun _ _ _ h => h) (Or.inl ⟨by rfl,?_⟩) ?_ ?_
                   rotate_left
                   ·intro w'
                    go_simp
                    with_reducible rfl
                   rotate_left
                   ·simp only [Act.put,List.setIfInBounds_toArray,List.set_cons_zero,List.set_cons_succ,i64_w,i32_w]
                    rfl
                   refine pure_ (i := 3) (N := some 76) (v := ?_) (a' := ?_) #[true,true,true,true,false,false,false,false,false,false,false,false,false,false,false,false] rfl rfl (any_of HT_.out (by kernel_rfl)) (fun _ _ _ h => h) (Or.inl ⟨by rfl,?_⟩) ?_ ?_
                   rotate_left
                   ·intro w'
                    go_simp
                    with_reducible rfl
                   rotate_left
                   ·simp only [Act.put,List.setIfInBounds_toArray,List.set_cons_zero,List.set_cons_succ,i64_w,i32_w]
                    rfl
                   refine pure_ (i := 5) (N := some 78) (v := ?_) (a' := ?_) #[true,true,true,true,false,true,false,false,false,false,false,false,false,false,false,false] rfl rfl (any_of HT_.out (by kernel_rfl)) (fun _ _ _ h => h) (Or.inl ⟨by rfl,?_⟩) ?_ ?_
                   rotate_left
                   ·intro w'
                    go_simp
                    with_reducible rfl
                   rotate_left
                   ·simp only [Act.put,List.setIfInBounds_toArray,List.set_cons_zero,List.set_cons_succ,i64_w,i32_w]
                    rfl
                   refine pure_ (i := 6) (N := some 79) (v := ?_) (a' := ?_) #[true,true,true,true,false,true,true,false,false,false,false,false,false,false,false,false] rfl rfl (any_of HT_.out (by kernel_rfl)) (fun _ _ _ h => h) (Or.inl ⟨by rfl,?_⟩) ?_ ?_
                   rotate_left
                   ·intro w'
                    go_simp
                    with_reducible rfl
                   rotate_left
                   ·simp only [Act.put,List.setIfInBounds_toArray,List.set_cons_zero,List.set_cons_succ,i64_w,i32_w]
                    rfl
                   refine pure_ (i := 7) (N := some 80) (v := ?_) (a' := ?_) #[true,true,true,true,false,true,true,true,false,false,false,false,false,false,false,false] rfl rfl (any_of HT_.out (by kernel_rfl)) (fun _ _ _ h => h) (Or.inl ⟨by rfl,?_⟩) ?_ ?_
                   rotate_left
                   ·intro w'
                    go_simp
                    with_reducible rfl
                   rotate_left
                   ·simp only [Act.put,List.setIfInBounds_toArray,List.set_cons_zero,List.set_cons_succ,i64_w,i32_w]
                    rfl
                   refine pure_ (i := 8) (N := some 81) (v := ?_) (a' := ?_) #[true,true,true,true,false,true,true,true,true,false,false,false,false,false,false,false] rfl rfl (any_of HT_.out (by kernel_rfl)) (fun _ _ _ h => h) (Or.inl ⟨by rfl,?_⟩) ?_ ?_
                   rotate_left
                   ·intro w'
                    go_simp
                    with_reducible rfl
                   rotate_left
                   ·simp only [Act.put,List.setIfInBounds_toArray,List.set_cons_zero,List.set_cons_succ,i64_w,i32_w]
                    rfl
                   refine pure_ (i := 12) (N := some 85) (v := ?_) (a' := ?_) #[true,true,true,true,false,true,true,true,true,false,false,false,true,false,false,false] rfl rfl (any_of HT_.out (by kernel_rfl)) (fun _ _ _ h => h) (Or.inl ⟨by rfl,?_⟩) ?_ ?_
                   rotate_left
                   ·intro w'
                    go_simp
                    with_reducible rfl
                   rotate_left
                   ·simp only [Act.put,List.setIfInBounds_toArray,List.set_cons_zero,List.set_cons_succ,i64_w,i32_w]
                    rfl
                   refine take_ (i := 4) (N := some 77) (v := ?_) (a' := ?_) #[true,true,true,true,true,true,true,true,true,false,false,false,true,false,false,false] rfl rfl (take_ofW HT_.out HW_.out (by kernel_rfl)) (fun _ _ _ h => h) (Or.inl ⟨by rfl,?_⟩) hHeld ?_ ?_
                   rotate_left
                   ·rintro w' ⟨s0,s1,s2⟩
                    go_simp
                    with_reducible rfl
                   rotate_left
                   ·simp only [Act.put,List.setIfInBounds_toArray,List.set_cons_zero,List.set_cons_succ,i64_w,i32_w]
                    rfl
                   refine take_ (i := 9) (N := some 82) (v := ?_) (a' := ?_) #[true,true,true,true,true,true,true,true,true,true,false,false,true,false,false,false] rfl rfl (take_ofW HT_.out HW_.out (by kernel_rfl)) (fun _ _ _ h => h) (Or.inl ⟨by rfl,?_⟩) hHeld ?_ ?_
                   rotate_left
                   ·rintro w' ⟨s0,s1,s2⟩
                    go_simp
                    with_reducible rfl
                   rotate_left
                   ·simp only [Act.put,List.setIfInBounds_toArray,List.set_cons_zero,List.set_cons_succ,i64_w,i32_w]
                    rfl
                   refine pure_ (i := 10) (N := some 83) (v := ?_) (a' := ?_) #[true,true,true,true,true,true,true,true,true,true,true,false,true,false,false,false] rfl rfl (any_of HT_.out (by kernel_rfl)) (fun _ _ _ h => h) (Or.inl ⟨by rfl,?_⟩) ?_ ?_
                   rotate_left
                   ·intro w'
                    go_simp
                    with_reducible rfl
                   rotate_left
                   ·simp only [Act.put,List.setIfInBounds_toArray,List.set_cons_zero,List.set_cons_succ,i64_w,i32_w]
                    rfl
                   refine take_ (i := 11) (N := some 84) (v := ?_) (a' := ?_) #[true,true,true,true,true,true,true,true,true,true,true,true,true,false,false,false] rfl rfl (take_ofW HT_.out HW_.out (by kernel_rfl)) (fun _ _ _ h => h) (Or.inl ⟨by rfl,?_⟩) hHeld ?_ ?_
                   rotate_left
                   ·rintro w' ⟨s0,s1,s2⟩
                    go_simp
                    with_reducible rfl
                   rotate_left
                   ·simp only [Act.put,List.setIfInBounds_toArray,List.set_cons_zero,List.set_cons_succ,i64_w,i32_w]
                    rfl
                   refine pure_ (i := 13) (N := some 86) (v := ?_) (a' := ?_) #[true,true,true,true,true,true,true,true,true,true,true,true,true,true,false,false] rfl rfl (any_of HT_.out (by kernel_rfl)) (fun _ _ _ h => h) (Or.inl ⟨by rfl,?_⟩) ?_ ?_
                   rotate_left
                   ·intro w'
                    go_simp
                    with_reducible rfl
                   rotate_left
                   ·simp only [Act.put,List.setIfInBounds_toArray,List.set_cons_zero,List.set_cons_succ,i64_w,i32_w]
                    rfl
                   refine pure_ (i := 14) (N := some 87) (v := ?_) (a' := ?_) #[true,true,true,true,true,true,true,true,true,true,true,true,true,true,true,false] rfl rfl (any_of HT_.out (by kernel_rfl)) (fun _ _ _ h => h) (Or.inl ⟨by rfl,?_⟩) ?_ ?_
                   rotate_left
                   ·intro w'
                    go_simp
                    with_reducible rfl
                   rotate_left
                   ·simp only [Act.put,List.setIfInBounds_toArray,List.set_cons_zero,List.set_cons_succ,i64_w,i32_w]
                    rfl
                   refine last_ (i := 15) (N := none) #[true,true,true,true,true,true,true,true,true,true,true,true,true,true,true,true] rfl rfl (one_of HT_.out (by kernel_rfl)) (by decide) (fun K hK => ?_)
                   refine skip_ (w1 := ?_) (by rfl) rfl ?_ ?_
                   rotate_left
                   ·go_simp
                    rfl
                   refine hK.out _ _ ?_
                   clear hK K
                   refine done_ (done_of HT_.out (by kernel_rfl)) ?_
                   try go_wp2
                   go_roundg k5
                   case measure => have := HK1.out;have := HK2.out;have := HJ15.out;have := HK4.out;have := HK5.out;omega
                   case rel => exact ⟨(y250),(wrap64 (x15_5 + 1)),(by first | rfl | (simp;done) | (simp [*];done)),H',⟨by have := HK1.out;have := HK2.out;have := HJ15.out;have := HK4.out;have := HK5.out;omega⟩,⟨by (with_reducible repeat (first | apply Kd.R_alloc | apply Kd.R_drewN | apply Kd.R_drew));exact HQ34.out⟩,⟨by (with_reducible repeat (first | apply Kd.R_alloc | apply Kd.R_drewN | apply Kd.R_drew));exact Kd.R_mono (Kd.R_far (p := ⟨go31,((rd t241 x15_5) : Int).toNat,none⟩) (Kd.R_types HO_10.out GG31.out (by decide)) (fun _ hk => hk.2) (.int .i64 (wrap64 ((rd x8_5 (rd t241 x15_5)) - x13_4)))) (fun _ hk => trivial)⟩,⟨by (with_reducible repeat (first | apply Kd.R_alloc | apply Kd.R_drewN | apply Kd.R_drew));exact Kd.R_mono (Kd.R_far (p := ⟨go31,((rd t241 x15_5) : Int).toNat,none⟩) (Kd.R_mono HO_12.out (fun k_ hk => (⟨hk,fun e_ => hk (by rw [e_];rfl)⟩ : _ ∧ k_ ≠ go31))) (fun _ hk => hk.2) (.int .i64 (wrap64 ((rd x8_5 (rd t241 x15_5)) - x13_4)))) (fun _ hk => hk.1)⟩,⟨by (with_reducible repeat (first | refine blk_drewN ?_ _ | refine blk_drew ?_ | refine blk_alloc ?_ _));refine blk_far ?_ (by have h_ := Kd.R_ne HO_8.out BK235.out (by decide);intro e_;exact h_ (by rw [e_];rfl)) _;(with_reducible repeat (first | refine blk_drewN ?_ _ | refine blk_drew ?_ | refine blk_alloc ?_ _));exact BK235.out⟩,⟨by repeat (first | (with_reducible first | exact HB.out | apply below_alloc | apply pw_below_drewN | apply below_drew1 | refine below_set ?_ GB31.out | refine below_set ?_ GE235.out) | exact HB.out)⟩⟩
                  ·rw [if_neg c30] at H
                   exact absurd H (by simp)
                 ·rw [if_neg c29] at H
                  exact absurd H (by simp)
                ·rw [if_neg c28] at H
                 exact absurd H (by simp)
               ·rw [if_neg c27] at H
                have c27b0 : decide (x15_5 < (t241.length : Int)) = false := decide_eq_false c27
                clear c27
                by_cases c35 : 0 ≤ x11_2
                ·rw [if_pos c35] at H
                 have c35b0 : decide (0 ≤ x11_2) = true := decide_eq_true c35
                 clear c35
                 by_cases c36 : x11_2 < (l1.length : Int)
                 ·rw [if_pos c36] at H
                  have c36b0 : decide (x11_2 < (l1.length : Int)) = true := decide_eq_true c36
                  clear c36
                  by_cases c37 : x10_2.length < 8796093022208
                  ·rw [if_pos c37] at H
                   have LMc37 := Aside0.mk c37
                   clear c37
                   obtain ⟨y252,hy252⟩ : ∃ y_ : List (S47),y_ = (x10_2 ++ [(⟨(rd_T45 l1 x11_2).f0,x13_4⟩ : S47)]) := ⟨_,rfl⟩
                   replace H : (bourneref37_Day.l1 k5 l1 x8_5 y252 (wrap64 (x11_2 + 1)) a0_0 l0_1 a0_2 l0_3 l0_4 l0_5 l0_6 l0_7 l0_8 l0_9 a0_10) = some (r1,r2) := by first | (rw [hy252];with_reducible exact H) | (have H2_ := (Option.bind_some _ _).symm.trans H;rw [hy252];with_reducible exact H2_) | (have H2_ := (Option.bind_some _ _).symm.trans H;with_reducible exact H2_) | with_reducible exact H | (rw [hy252];exact H) | exact H
                   have Ny252 := Aside0.mk hy252
                   clear hy252
                   have H' := Aside0.mk H
                   clear H
                   have p251 : 0 ≤ (x11_2 : Int) := of_decide_eq_true (by first | (with_reducible assumption) | assumption)
                   have q251 : x11_2 < (l1.length : Int) := of_decide_eq_true (by first | (with_reducible assumption) | assumption)
                   obtain ⟨ad251,e251,hx251_0,hx251_1,hx251_2,hx251_3,hx251_4,hx251_5,hx251_6,hx251_7,hx251_8⟩ := at_T45 HR1.out x11_2 p251 q251
                   obtain rfl : ad240 = ad251 := (by injection e251)
                   replace hx251_0 := (HB.out.cell (World.block_lt_of_cell? w _ hx251_0)).trans hx251_0
                   replace hx251_1 := (HB.out.cell (World.block_lt_of_cell? w _ hx251_1)).trans hx251_1
                   replace hx251_2 := (HB.out.cell (World.block_lt_of_cell? w _ hx251_2)).trans hx251_2
                   replace hx251_3 := (HB.out.cell (World.block_lt_of_cell? w _ hx251_3)).trans hx251_3
                   replace hx251_4 := (HB.out.cell (World.block_lt_of_cell? w _ hx251_4)).trans hx251_4
                   replace hx251_5 := (HB.out.cell (World.block_lt_of_cell? w _ hx251_5)).trans hx251_5
                   replace hx251_6 := (HB.out.cell (World.block_lt_of_cell? w _ hx251_6)).trans hx251_6
                   replace hx251_7 := (HB.out.cell (World.block_lt_of_cell? w _ hx251_7)).trans hx251_7
                   replace hx251_8 := (HB.out.cell (World.block_lt_of_cell? w _ hx251_8)).trans hx251_8
                   replace p251 := eq_true p251
                   replace q251 := eq_true q251
                   go_wp2_with (first | ((with_reducible refine gate_builtin (b := .append) (xs := #[.tmp 88,.tmp 96]) rfl ?_);at_builtin;refine Kd.R_append k47 (w0 := w) w.heap.size rfl (.tmp 88) (.tmp 96) 33 47 (.agg #[(.int .i64 0),(.int .i64 0)]) 16 rfl Try.underlying33 info47 rfl (by decide) (by omega) u10 x10_2 (⟨(rd_T45 l1 x11_2).f0,x13_4⟩ : S47) [.int .i64 ((rd_T45 l1 x11_2).f0),.int .i64 x13_4] (fun _ => True) (fun _ => False) rfl rfl ?aP (fun _ hk => hk.elim) ?aF ?aO ?aB ?aS ?aL ?_;(case aP => exact k47_mkM _ _ _ (⟨(rd_T45 l1 x11_2).f0,x13_4⟩ : S47));(case aB => exact (by repeat (first | (with_reducible first | exact HB.out | apply below_alloc | apply pw_below_drewN | apply below_drew1 | refine below_set ?_ GE235.out) | exact HB.out)));(case aF => exact (fun _ _ => trivial));(case aO => exact (by (with_reducible repeat (first | apply Kd.R_alloc | apply Kd.R_drewN | apply Kd.R_drew));exact HO_10.out));(case aS => exact (below_size (by repeat (first | (with_reducible first | exact HB.out | apply below_alloc | apply pw_below_drewN | apply below_drew1 | refine below_set ?_ GE235.out) | exact HB.out))));(case aL => have := LMc37.out;omega);intro v253 w38 ho hb hg hat;rw [← Ny252.out] at ho;have n0_ := Aside0.mk (Kd.R_over' (by (with_reducible repeat (first | apply Kd.R_alloc | apply Kd.R_drewN | apply Kd.R_drew));exact HO_8.out) (Kd.R_typed (by (with_reducible repeat (first | apply Kd.R_alloc | apply Kd.R_drewN | apply Kd.R_drew));exact HO_10.out)) (by decide) hg);have n1_ := Aside0.mk (Kd.R_over' (by (with_reducible repeat (first | apply Kd.R_alloc | apply Kd.R_drewN | apply Kd.R_drew));exact HO_12.out) (Kd.R_typed (by (with_reducible repeat (first | apply Kd.R_alloc | apply Kd.R_drewN | apply Kd.R_drew));exact HO_10.out)) (by decide) hg);have n2_ := Aside0.mk (blk_grown (g := gb235) (o := .cells #[.string a0_0,.slice A0_1 l0_1.length c0_1,.int .i64 a0_2,.slice A0_3 l0_3.length c0_3,.slice A0_4 l0_4.length c0_4,.slice A0_5 l0_5.length c0_5,.slice A0_6 l0_6.length c0_6,.slice A0_7 l0_7.length c0_7,.slice A0_8 l0_8.length c0_8,.slice A0_9 l0_9.length c0_9,.int .i64 a0_10] 31 (0,0)) (by (with_reducible repeat (first | refine blk_drewN ?_ _ | refine blk_drew ?_ | refine blk_alloc ?_ _));exact BK235.out) hg (Kd.R_ne HO_10.out BK235.out (by decide)));have n3_ := Aside0.mk (hb);have n4_ := Aside0.mk (ho);clear HO_8;clear HO_12;clear BK235;clear HB;clear HO_10;have HO_8 := n0_;have HO_12 := n1_;have BK235 := n2_;have HB := n3_;have HO254 := n4_;clear n0_ n1_ n2_ n3_ n4_;clear ho hb hg hat))
                   go_roundg k5
                   case measure => have := HK1.out;have := HK2.out;have := HJ15.out;have := HK4.out;have := HK5.out;omega
                   case rel => exact ⟨(x8_5),(y252),(wrap64 (x11_2 + 1)),(by first | rfl | (simp;done) | (simp [*];done)),H',⟨by have := HK1.out;have := HK2.out;have := HJ15.out;have := HK4.out;have := HK5.out;omega⟩,⟨by (with_reducible repeat (first | apply Kd.R_alloc | apply Kd.R_drewN | apply Kd.R_drew));exact Kd.R_mono HO_8.out (fun _ hk => trivial)⟩,⟨by (with_reducible repeat (first | apply Kd.R_alloc | apply Kd.R_drewN | apply Kd.R_drew));exact HO254.out⟩,⟨by (with_reducible repeat (first | refine blk_drewN ?_ _ | refine blk_drew ?_ | refine blk_alloc ?_ _));exact BK235.out⟩,⟨by repeat (first | (with_reducible first | exact HB.out | apply below_alloc | apply pw_below_drewN | apply below_drew1 | refine below_set ?_ GE235.out) | exact HB.out)⟩⟩
                  ·rw [if_neg c37] at H
                   exact absurd H (by simp)
                 ·rw [if_neg c36] at H
                  exact absurd H (by simp)
                ·rw [if_neg c35] at H
                 exact absurd H (by simp)
       ·rw [if_neg c13] at H
        exact absurd H (by simp)
      ·rw [if_neg c12] at H
       have c12b0 : decide (x11_2 < (l1.length : Int)) = false := decide_eq_false c12
       clear c12
       simp only [Option.some.injEq,Prod.mk.injEq] at H
       obtain ⟨rfl,rfl⟩ := H
       go_wp2
       go_ret2
       exact ⟨_,_,by first | rfl | (simp [errW_none,errW_some] <;> rfl) | (simp [*,errW_none,errW_some] <;> rfl),by (with_reducible repeat (first | apply Kd.R_alloc | apply Kd.R_drewN | apply Kd.R_drew));exact HO_10.out,by (with_reducible repeat (first | apply Kd.R_alloc | apply Kd.R_drewN | apply Kd.R_drew));exact HO_8.out,by repeat (first | (with_reducible first | exact HB.out | apply below_alloc | apply pw_below_drewN | apply below_drew1 | refine below_set ?_ GE235.out) | exact HB.out)⟩

end Go.Proofs.Ythmbleephognnaa.Q
