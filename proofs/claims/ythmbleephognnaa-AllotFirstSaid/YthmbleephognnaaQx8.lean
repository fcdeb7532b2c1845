-- written by xprint.py (this session's program over the kit's print program)
import Derived.Test.YthmbleephognnaaQx0
import Derived.Test.YthmbleephognnaaQx2
import Derived.Test.YthmbleephognnaaQx3
import Derived.Test.YthmbleephognnaaQx4
import Derived.Test.YthmbleephognnaaQx6
import Derived.Test.YthmbleephognnaaQx7
namespace Go.Proofs.Ythmbleephognnaa.Q
open Go.RowKit Go.Proofs.YthmbleephognnaaW.PrintWords Go.Proofs.YthmbleephognnaaW.PrintLast Go.Proofs.YthmbleephognnaaW.PrintMore
attribute [local go_sem] max2_int min2_int max_two min_two max_three min_three max_four min_four -- for this text's walks alone
set_option linter.unusedVariables false
set_option linter.unusedSimpArgs false

/-! ### bournelaw37_small: function 8 -/
def bournelaw37_small.f (k : Nat) : Option (Bool) := (some (([(⟨(⟨#[]⟩ : ByteArray),0,0,0,([] : List (S108)),([] : List Int),0,0,2,0,0,([] : List (S110))⟩ : S58),(⟨(⟨#[]⟩ : ByteArray),0,0,0,([] : List (S108)),([] : List Int),0,0,2,0,0,([] : List (S110))⟩ : S58),(⟨(⟨#[]⟩ : ByteArray),0,0,0,([] : List (S108)),([] : List Int),0,0,(-1),0,0,([] : List (S110))⟩ : S58)] : List (S58)) : List (S58))).bind fun y173 => ((some (([(⟨1,0,0,2,30,0,0,0,0⟩ : S45),(⟨2,0,0,0,8,0,0,500,1⟩ : S45),(⟨3,0,0,1,8,0,0,0,0⟩ : S45)] : List (S45)) : List (S45))).bind fun y177 => ((allot_Day.f k (⟨#[]⟩ : ByteArray) ([] : List ByteArray) 0 y173 ([] : List (S98)) ([] : List (S100)) ([] : List (S102)) ([] : List (S104)) ([] : List (S106)) ([] : List Int) 0 y177 (([10,20,5] : List Int))).bind fun bt183 => ((bourneref37_Same.f k bt183.1 (([(⟨1,30⟩ : S47),(⟨2,5⟩ : S47),(⟨3,0⟩ : S47)] : List (S47)))).bind fun t192 => (if t192 = true then ((bourneref37_SameInts.f k bt183.2 (([5,20,0] : List Int))).bind fun t196 => (if t196 = true then ((allot_Reach.f k (⟨#[]⟩ : ByteArray) ([] : List ByteArray) 0 y173 ([] : List (S98)) ([] : List (S100)) ([] : List (S102)) ([] : List (S104)) ([] : List (S106)) ([] : List Int) 0 0).bind fun t197 => ((bourneref37_SameInts.f k t197 (([0,2] : List Int))).bind fun t203 => (if t203 = true then ((allot_Reach.f k (⟨#[]⟩ : ByteArray) ([] : List ByteArray) 0 y173 ([] : List (S98)) ([] : List (S100)) ([] : List (S102)) ([] : List (S104)) ([] : List (S106)) ([] : List Int) 0 3).bind fun t204 => (if (t204.length : Int) = 0 then (if 1 ≤ 2 then (if 2 ≤ (bt183.1.length : Int) then ((allot_Back.f k (⟨#[]⟩ : ByteArray) ([] : List ByteArray) 0 y173 ([] : List (S98)) ([] : List (S100)) ([] : List (S102)) ([] : List (S104)) ([] : List (S106)) ([] : List Int) 0 y177 ((bt183.1.take 2).drop 1)).bind fun t211 => ((bourneref37_SameInts.f k t211 (([0,2,0] : List Int))).bind fun t217 => (some t217))) else (none)) else (none)) else (none))) else (none)))) else (none))) else (none)))))
theorem bournelaw37_small.mono : ∀ k,LeO (bournelaw37_small.f k ) (bournelaw37_small.f (k + 1) ) := by
 intro k
 unfold bournelaw37_small.f
 repeat' first
   | (with_reducible exact allot_Back.mono _ _ _ _ _ _ _ _ _ _ _ _ _ _)
   | (with_reducible exact allot_Day.mono _ _ _ _ _ _ _ _ _ _ _ _ _ _)
   | (with_reducible exact allot_Reach.mono _ _ _ _ _ _ _ _ _ _ _ _ _)
   | (with_reducible exact bourneref37_Same.mono _ _ _)
   | (with_reducible exact bourneref37_SameInts.mono _ _ _)
   | (with_reducible exact LeO.refl _)
   | (with_reducible exact LeO.none _)
   | (with_reducible refine LeO.ite ?_ ?_)
   | (with_reducible refine LeO.bind ?_ (fun _ => ?_))
   | exact allot_Back.mono _ _ _ _ _ _ _ _ _ _ _ _ _ _
   | exact allot_Day.mono _ _ _ _ _ _ _ _ _ _ _ _ _ _
   | exact allot_Reach.mono _ _ _ _ _ _ _ _ _ _ _ _ _
   | exact bourneref37_Same.mono _ _ _
   | exact bourneref37_SameInts.mono _ _ _
   | exact LeO.none _
   | refine LeO.ite ?_ ?_
   | refine LeO.bind ?_ (fun _ => ?_)
def bournelaw37_small.T5 : Bool × List (List Nat × List Nat) := (true,[([],[]),([],[]),([0,1],[0,1]),([2,2],[2]),([3],[3]),([3],[3]),([4,5,3,3],[3,4,5]),([3,6],[3,6]),([7,6],[7]),([8],[8]),([9,8,8],[8,9]),([8],[8]),([10,11,10,8],[8,10,11]),([8,12],[8,12]),([13,12],[13]),([14],[14]),([15,14,14],[14,15]),([16,14],[14,16]),([17,14],[14,17]),([14,18],[14,18]),([19,16],[19]),([20],[20]),([20],[20]),([20],[20]),([23,20],[20,23]),([21,22,24,20,20],[20,21,22,24]),([20],[20]),([25,26,25,20],[20,25,26]),([20,27],[20,27]),([28,27,0,1,2,3,4,5,6,7,8,9,10,11,12,13,14,15,16,17,18,19,20,21,22,23,24,25,26,27,28],[28])])
def bournelaw37_small.B5 : List Nat := [0,0,3,7,15,15,63,127,255,511,1023,511,4095,8191,16383,32767,65535,131071,262143,524287,1048575,2097151,2097151,2097151,10485759,33554431,2097151,134217727,268435455,536870911]
theorem bournelaw37_small.tab5 : rtab .any (opsOf Try.f8 5) = bournelaw37_small.T5 := by kernel_rfl
theorem bournelaw37_small.bits5 : waitsOk bournelaw37_small.T5.2 bournelaw37_small.B5 = true := by kernel_rfl
set_option maxHeartbeats 8000000 in
set_option maxRecDepth 100000 in
theorem bournelaw37_small.calls (k : Nat) (r : Bool) (w : World) (h : bournelaw37_small.f k = some r) :
  Calls Try.prog 8 #[] w fun e w' => e = .returned (.bool r) ∧ Below w.heap.size w w' := by
 have hu58 := Try.underlying58
 have hu31 := Try.underlying31
 have hu45 := Try.underlying45
 have hu47 := Try.underlying47
 have HB := Aside0.mk (Below.refl w.heap.size w)
 have H : ((some (([(⟨(⟨#[]⟩ : ByteArray),0,0,0,([] : List (S108)),([] : List Int),0,0,2,0,0,([] : List (S110))⟩ : S58),(⟨(⟨#[]⟩ : ByteArray),0,0,0,([] : List (S108)),([] : List Int),0,0,2,0,0,([] : List (S110))⟩ : S58),(⟨(⟨#[]⟩ : ByteArray),0,0,0,([] : List (S108)),([] : List Int),0,0,(-1),0,0,([] : List (S110))⟩ : S58)] : List (S58)) : List (S58))).bind fun y173 => ((some (([(⟨1,0,0,2,30,0,0,0,0⟩ : S45),(⟨2,0,0,0,8,0,0,500,1⟩ : S45),(⟨3,0,0,1,8,0,0,0,0⟩ : S45)] : List (S45)) : List (S45))).bind fun y177 => ((allot_Day.f k (⟨#[]⟩ : ByteArray) ([] : List ByteArray) 0 y173 ([] : List (S98)) ([] : List (S100)) ([] : List (S102)) ([] : List (S104)) ([] : List (S106)) ([] : List Int) 0 y177 (([10,20,5] : List Int))).bind fun bt183 => ((bourneref37_Same.f k bt183.1 (([(⟨1,30⟩ : S47),(⟨2,5⟩ : S47),(⟨3,0⟩ : S47)] : List (S47)))).bind fun t192 => (if t192 = true then ((bourneref37_SameInts.f k bt183.2 (([5,20,0] : List Int))).bind fun t196 => (if t196 = true then ((allot_Reach.f k (⟨#[]⟩ : ByteArray) ([] : List ByteArray) 0 y173 ([] : List (S98)) ([] : List (S100)) ([] : List (S102)) ([] : List (S104)) ([] : List (S106)) ([] : List Int) 0 0).bind fun t197 => ((bourneref37_SameInts.f k t197 (([0,2] : List Int))).bind fun t203 => (if t203 = true then ((allot_Reach.f k (⟨#[]⟩ : ByteArray) ([] : List ByteArray) 0 y173 ([] : List (S98)) ([] : List (S100)) ([] : List (S102)) ([] : List (S104)) ([] : List (S106)) ([] : List Int) 0 3).bind fun t204 => (if (t204.length : Int) = 0 then (if 1 ≤ 2 then (if 2 ≤ (bt183.1.length : Int) then ((allot_Back.f k (⟨#[]⟩ : ByteArray) ([] : List ByteArray) 0 y173 ([] : List (S98)) ([] : List (S100)) ([] : List (S102)) ([] : List (S104)) ([] : List (S106)) ([] : List Int) 0 y177 ((bt183.1.take 2).drop 1)).bind fun t211 => ((bourneref37_SameInts.f k t211 (([0,2,0] : List Int))).bind fun t217 => (some t217))) else (none)) else (none)) else (none))) else (none)))) else (none))) else (none)))))) = some r := h
 clear h
 obtain ⟨y173,hy173⟩ : ∃ y_ : List (S58),y_ = (([(⟨(⟨#[]⟩ : ByteArray),0,0,0,([] : List (S108)),([] : List Int),0,0,2,0,0,([] : List (S110))⟩ : S58),(⟨(⟨#[]⟩ : ByteArray),0,0,0,([] : List (S108)),([] : List Int),0,0,2,0,0,([] : List (S110))⟩ : S58),(⟨(⟨#[]⟩ : ByteArray),0,0,0,([] : List (S108)),([] : List Int),0,0,(-1),0,0,([] : List (S110))⟩ : S58)] : List (S58))) := ⟨_,rfl⟩
 replace H : ((some (([(⟨1,0,0,2,30,0,0,0,0⟩ : S45),(⟨2,0,0,0,8,0,0,500,1⟩ : S45),(⟨3,0,0,1,8,0,0,0,0⟩ : S45)] : List (S45)) : List (S45))).bind fun y177 => ((allot_Day.f k (⟨#[]⟩ : ByteArray) ([] : List ByteArray) 0 y173 ([] : List (S98)) ([] : List (S100)) ([] : List (S102)) ([] : List (S104)) ([] : List (S106)) ([] : List Int) 0 y177 (([10,20,5] : List Int))).bind fun bt183 => ((bourneref37_Same.f k bt183.1 (([(⟨1,30⟩ : S47),(⟨2,5⟩ : S47),(⟨3,0⟩ : S47)] : List (S47)))).bind fun t192 => (if t192 = true then ((bourneref37_SameInts.f k bt183.2 (([5,20,0] : List Int))).bind fun t196 => (if t196 = true then ((allot_Reach.f k (⟨#[]⟩ : ByteArray) ([] : List ByteArray) 0 y173 ([] : List (S98)) ([] : List (S100)) ([] : List (S102)) ([] : List (S104)) ([] : List (S106)) ([] : List Int) 0 0).bind fun t197 => ((bourneref37_SameInts.f k t197 (([0,2] : List Int))).bind fun t203 => (if t203 = true then ((allot_Reach.f k (⟨#[]⟩ : ByteArray) ([] : List ByteArray) 0 y173 ([] : List (S98)) ([] : List (S100)) ([] : List (S102)) ([] : List (S104)) ([] : List (S106)) ([] : List Int) 0 3).bind fun t204 => (if (t204.length : Int) = 0 then (if 1 ≤ 2 then (if 2 ≤ (bt183.1.length : Int) then ((allot_Back.f k (⟨#[]⟩ : ByteArray) ([] : List ByteArray) 0 y173 ([] : List (S98)) ([] : List (S100)) ([] : List (S102)) ([] : List (S104)) ([] : List (S106)) ([] : List Int) 0 y177 ((bt183.1.take 2).drop 1)).bind fun t211 => ((bourneref37_SameInts.f k t211 (([0,2,0] : List Int))).bind fun t217 => (some t217))) else (none)) else (none)) else (none))) else (none)))) else (none))) else (none))))) = some r := by first | (rw [hy173];with_reducible exact H) | (have H2_ := (Option.bind_some _ _).symm.trans H;rw [hy173];with_reducible exact H2_) | (have H2_ := (Option.bind_some _ _).symm.trans H;with_reducible exact H2_) | with_reducible exact H | (rw [hy173];exact H) | exact H
 have Ny173 := Aside0.mk hy173
 clear hy173
 obtain ⟨y177,hy177⟩ : ∃ y_ : List (S45),y_ = (([(⟨1,0,0,2,30,0,0,0,0⟩ : S45),(⟨2,0,0,0,8,0,0,500,1⟩ : S45),(⟨3,0,0,1,8,0,0,0,0⟩ : S45)] : List (S45))) := ⟨_,rfl⟩
 replace H : ((allot_Day.f k (⟨#[]⟩ : ByteArray) ([] : List ByteArray) 0 y173 ([] : List (S98)) ([] : List (S100)) ([] : List (S102)) ([] : List (S104)) ([] : List (S106)) ([] : List Int) 0 y177 (([10,20,5] : List Int))).bind fun bt183 => ((bourneref37_Same.f k bt183.1 (([(⟨1,30⟩ : S47),(⟨2,5⟩ : S47),(⟨3,0⟩ : S47)] : List (S47)))).bind fun t192 => (if t192 = true then ((bourneref37_SameInts.f k bt183.2 (([5,20,0] : List Int))).bind fun t196 => (if t196 = true then ((allot_Reach.f k (⟨#[]⟩ : ByteArray) ([] : List ByteArray) 0 y173 ([] : List (S98)) ([] : List (S100)) ([] : List (S102)) ([] : List (S104)) ([] : List (S106)) ([] : List Int) 0 0).bind fun t197 => ((bourneref37_SameInts.f k t197 (([0,2] : List Int))).bind fun t203 => (if t203 = true then ((allot_Reach.f k (⟨#[]⟩ : ByteArray) ([] : List ByteArray) 0 y173 ([] : List (S98)) ([] : List (S100)) ([] : List (S102)) ([] : List (S104)) ([] : List (S106)) ([] : List Int) 0 3).bind fun t204 => (if (t204.length : Int) = 0 then (if 1 ≤ 2 then (if 2 ≤ (bt183.1.length : Int) then ((allot_Back.f k (⟨#[]⟩ : ByteArray) ([] : List ByteArray) 0 y173 ([] : List (S98)) ([] : List (S100)) ([] : List (S102)) ([] : List (S104)) ([] : List (S106)) ([] : List Int) 0 y177 ((bt183.1.take 2).drop 1)).bind fun t211 => ((bourneref37_SameInts.f k t211 (([0,2,0] : List Int))).bind fun t217 => (some t217))) else (none)) else (none)) else (none))) else (none)))) else (none))) else (none)))) = some r := by first | (rw [hy177];with_reducible exact H) | (have H2_ := (Option.bind_some _ _).symm.trans H;rw [hy177];with_reducible exact H2_) | (have H2_ := (Option.bind_some _ _).symm.trans H;with_reducible exact H2_) | with_reducible exact H | (rw [hy177];exact H) | exact H
 have Ny177 := Aside0.mk hy177
 clear hy177
 obtain ⟨y180,hy180⟩ : ∃ y_ : List Int,y_ = (([10,20,5] : List Int)) := ⟨_,rfl⟩
 replace H : ((allot_Day.f k (⟨#[]⟩ : ByteArray) ([] : List ByteArray) 0 y173 ([] : List (S98)) ([] : List (S100)) ([] : List (S102)) ([] : List (S104)) ([] : List (S106)) ([] : List Int) 0 y177 y180).bind fun bt183 => ((bourneref37_Same.f k bt183.1 (([(⟨1,30⟩ : S47),(⟨2,5⟩ : S47),(⟨3,0⟩ : S47)] : List (S47)))).bind fun t192 => (if t192 = true then ((bourneref37_SameInts.f k bt183.2 (([5,20,0] : List Int))).bind fun t196 => (if t196 = true then ((allot_Reach.f k (⟨#[]⟩ : ByteArray) ([] : List ByteArray) 0 y173 ([] : List (S98)) ([] : List (S100)) ([] : List (S102)) ([] : List (S104)) ([] : List (S106)) ([] : List Int) 0 0).bind fun t197 => ((bourneref37_SameInts.f k t197 (([0,2] : List Int))).bind fun t203 => (if t203 = true then ((allot_Reach.f k (⟨#[]⟩ : ByteArray) ([] : List ByteArray) 0 y173 ([] : List (S98)) ([] : List (S100)) ([] : List (S102)) ([] : List (S104)) ([] : List (S106)) ([] : List Int) 0 3).bind fun t204 => (if (t204.length : Int) = 0 then (if 1 ≤ 2 then (if 2 ≤ (bt183.1.length : Int) then ((allot_Back.f k (⟨#[]⟩ : ByteArray) ([] : List ByteArray) 0 y173 ([] : List (S98)) ([] : List (S100)) ([] : List (S102)) ([] : List (S104)) ([] : List (S106)) ([] : List Int) 0 y177 ((bt183.1.take 2).drop 1)).bind fun t211 => ((bourneref37_SameInts.f k t211 (([0,2,0] : List Int))).bind fun t217 => (some t217))) else (none)) else (none)) else (none))) else (none)))) else (none))) else (none)))) = some r := by first | (rw [hy180];with_reducible exact H) | (have H2_ := (Option.bind_some _ _).symm.trans H;rw [hy180];with_reducible exact H2_) | (have H2_ := (Option.bind_some _ _).symm.trans H;with_reducible exact H2_) | with_reducible exact H | (rw [hy180];exact H) | exact H
 have Ny180 := Aside0.mk hy180
 clear hy180
 replace H := Option.bind_eq_some_iff.mp H
 obtain ⟨⟨t183,t186⟩,A10,H⟩ := H
 replace H : ((bourneref37_Same.f k t183 (([(⟨1,30⟩ : S47),(⟨2,5⟩ : S47),(⟨3,0⟩ : S47)] : List (S47)))).bind fun t192 => (if t192 = true then ((bourneref37_SameInts.f k t186 (([5,20,0] : List Int))).bind fun t196 => (if t196 = true then ((allot_Reach.f k (⟨#[]⟩ : ByteArray) ([] : List ByteArray) 0 y173 ([] : List (S98)) ([] : List (S100)) ([] : List (S102)) ([] : List (S104)) ([] : List (S106)) ([] : List Int) 0 0).bind fun t197 => ((bourneref37_SameInts.f k t197 (([0,2] : List Int))).bind fun t203 => (if t203 = true then ((allot_Reach.f k (⟨#[]⟩ : ByteArray) ([] : List ByteArray) 0 y173 ([] : List (S98)) ([] : List (S100)) ([] : List (S102)) ([] : List (S104)) ([] : List (S106)) ([] : List Int) 0 3).bind fun t204 => (if (t204.length : Int) = 0 then (if 1 ≤ 2 then (if 2 ≤ (t183.length : Int) then ((allot_Back.f k (⟨#[]⟩ : ByteArray) ([] : List ByteArray) 0 y173 ([] : List (S98)) ([] : List (S100)) ([] : List (S102)) ([] : List (S104)) ([] : List (S106)) ([] : List Int) 0 y177 ((t183.take 2).drop 1)).bind fun t211 => ((bourneref37_SameInts.f k t211 (([0,2,0] : List Int))).bind fun t217 => (some t217))) else (none)) else (none)) else (none))) else (none)))) else (none))) else (none))) = some r := H
 have A1 := Aside0.mk A10
 clear A10
 obtain ⟨y189,hy189⟩ : ∃ y_ : List (S47),y_ = (([(⟨1,30⟩ : S47),(⟨2,5⟩ : S47),(⟨3,0⟩ : S47)] : List (S47))) := ⟨_,rfl⟩
 replace H : ((bourneref37_Same.f k t183 y189).bind fun t192 => (if t192 = true then ((bourneref37_SameInts.f k t186 (([5,20,0] : List Int))).bind fun t196 => (if t196 = true then ((allot_Reach.f k (⟨#[]⟩ : ByteArray) ([] : List ByteArray) 0 y173 ([] : List (S98)) ([] : List (S100)) ([] : List (S102)) ([] : List (S104)) ([] : List (S106)) ([] : List Int) 0 0).bind fun t197 => ((bourneref37_SameInts.f k t197 (([0,2] : List Int))).bind fun t203 => (if t203 = true then ((allot_Reach.f k (⟨#[]⟩ : ByteArray) ([] : List ByteArray) 0 y173 ([] : List (S98)) ([] : List (S100)) ([] : List (S102)) ([] : List (S104)) ([] : List (S106)) ([] : List Int) 0 3).bind fun t204 => (if (t204.length : Int) = 0 then (if 1 ≤ 2 then (if 2 ≤ (t183.length : Int) then ((allot_Back.f k (⟨#[]⟩ : ByteArray) ([] : List ByteArray) 0 y173 ([] : List (S98)) ([] : List (S100)) ([] : List (S102)) ([] : List (S104)) ([] : List (S106)) ([] : List Int) 0 y177 ((t183.take 2).drop 1)).bind fun t211 => ((bourneref37_SameInts.f k t211 (([0,2,0] : List Int))).bind fun t217 => (some t217))) else (none)) else (none)) else (none))) else (none)))) else (none))) else (none))) = some r := by first | (rw [hy189];with_reducible exact H) | (have H2_ := (Option.bind_some _ _).symm.trans H;rw [hy189];with_reducible exact H2_) | (have H2_ := (Option.bind_some _ _).symm.trans H;with_reducible exact H2_) | with_reducible exact H | (rw [hy189];exact H) | exact H
 have Ny189 := Aside0.mk hy189
 clear hy189
 replace H := Option.bind_eq_some_iff.mp H
 obtain ⟨t192,A20,H⟩ := H
 replace H : (if t192 = true then ((bourneref37_SameInts.f k t186 (([5,20,0] : List Int))).bind fun t196 => (if t196 = true then ((allot_Reach.f k (⟨#[]⟩ : ByteArray) ([] : List ByteArray) 0 y173 ([] : List (S98)) ([] : List (S100)) ([] : List (S102)) ([] : List (S104)) ([] : List (S106)) ([] : List Int) 0 0).bind fun t197 => ((bourneref37_SameInts.f k t197 (([0,2] : List Int))).bind fun t203 => (if t203 = true then ((allot_Reach.f k (⟨#[]⟩ : ByteArray) ([] : List ByteArray) 0 y173 ([] : List (S98)) ([] : List (S100)) ([] : List (S102)) ([] : List (S104)) ([] : List (S106)) ([] : List Int) 0 3).bind fun t204 => (if (t204.length : Int) = 0 then (if 1 ≤ 2 then (if 2 ≤ (t183.length : Int) then ((allot_Back.f k (⟨#[]⟩ : ByteArray) ([] : List ByteArray) 0 y173 ([] : List (S98)) ([] : List (S100)) ([] : List (S102)) ([] : List (S104)) ([] : List (S106)) ([] : List Int) 0 y177 ((t183.take 2).drop 1)).bind fun t211 => ((bourneref37_SameInts.f k t211 (([0,2,0] : List Int))).bind fun t217 => (some t217))) else (none)) else (none)) else (none))) else (none)))) else (none))) else (none)) = some r := H
 have A2 := Aside0.mk A20
 clear A20
 by_cases c3 : t192 = true
 ·subst c3
  have H1 : ((bourneref37_SameInts.f k t186 (([5,20,0] : List Int))).bind fun t196 => (if t196 = true then ((allot_Reach.f k (⟨#[]⟩ : ByteArray) ([] : List ByteArray) 0 y173 ([] : List (S98)) ([] : List (S100)) ([] : List (S102)) ([] : List (S104)) ([] : List (S106)) ([] : List Int) 0 0).bind fun t197 => ((bourneref37_SameInts.f k t197 (([0,2] : List Int))).bind fun t203 => (if t203 = true then ((allot_Reach.f k (⟨#[]⟩ : ByteArray) ([] : List ByteArray) 0 y173 ([] : List (S98)) ([] : List (S100)) ([] : List (S102)) ([] : List (S104)) ([] : List (S106)) ([] : List Int) 0 3).bind fun t204 => (if (t204.length : Int) = 0 then (if 1 ≤ 2 then (if 2 ≤ (t183.length : Int) then ((allot_Back.f k (⟨#[]⟩ : ByteArray) ([] : List ByteArray) 0 y173 ([] : List (S98)) ([] : List (S100)) ([] : List (S102)) ([] : List (S104)) ([] : List (S106)) ([] : List Int) 0 y177 ((t183.take 2).drop 1)).bind fun t211 => ((bourneref37_SameInts.f k t211 (([0,2,0] : List Int))).bind fun t217 => (some t217))) else (none)) else (none)) else (none))) else (none)))) else (none))) = some r := by rw [if_pos rfl] at H;exact H
  clear H
  have H := H1
  clear H1
  obtain ⟨y193,hy193⟩ : ∃ y_ : List Int,y_ = (([5,20,0] : List Int)) := ⟨_,rfl⟩
  replace H : ((bourneref37_SameInts.f k t186 y193).bind fun t196 => (if t196 = true then ((allot_Reach.f k (⟨#[]⟩ : ByteArray) ([] : List ByteArray) 0 y173 ([] : List (S98)) ([] : List (S100)) ([] : List (S102)) ([] : List (S104)) ([] : List (S106)) ([] : List Int) 0 0).bind fun t197 => ((bourneref37_SameInts.f k t197 (([0,2] : List Int))).bind fun t203 => (if t203 = true then ((allot_Reach.f k (⟨#[]⟩ : ByteArray) ([] : List ByteArray) 0 y173 ([] : List (S98)) ([] : List (S100)) ([] : List (S102)) ([] : List (S104)) ([] : List (S106)) ([] : List Int) 0 3).bind fun t204 => (if (t204.length : Int) = 0 then (if 1 ≤ 2 then (if 2 ≤ (t183.length : Int) then ((allot_Back.f k (⟨#[]⟩ : ByteArray) ([] : List ByteArray) 0 y173 ([] : List (S98)) ([] : List (S100)) ([] : List (S102)) ([] : List (S104)) ([] : List (S106)) ([] : List Int) 0 y177 ((t183.take 2).drop 1)).bind fun t211 => ((bourneref37_SameInts.f k t211 (([0,2,0] : List Int))).bind fun t217 => (some t217))) else (none)) else (none)) else (none))) else (none)))) else (none))) = some r := by first | (rw [hy193];with_reducible exact H) | (have H2_ := (Option.bind_some _ _).symm.trans H;rw [hy193];with_reducible exact H2_) | (have H2_ := (Option.bind_some _ _).symm.trans H;with_reducible exact H2_) | with_reducible exact H | (rw [hy193];exact H) | exact H
  have Ny193 := Aside0.mk hy193
  clear hy193
  replace H := Option.bind_eq_some_iff.mp H
  obtain ⟨t196,A40,H⟩ := H
  replace H : (if t196 = true then ((allot_Reach.f k (⟨#[]⟩ : ByteArray) ([] : List ByteArray) 0 y173 ([] : List (S98)) ([] : List (S100)) ([] : List (S102)) ([] : List (S104)) ([] : List (S106)) ([] : List Int) 0 0).bind fun t197 => ((bourneref37_SameInts.f k t197 (([0,2] : List Int))).bind fun t203 => (if t203 = true then ((allot_Reach.f k (⟨#[]⟩ : ByteArray) ([] : List ByteArray) 0 y173 ([] : List (S98)) ([] : List (S100)) ([] : List (S102)) ([] : List (S104)) ([] : List (S106)) ([] : List Int) 0 3).bind fun t204 => (if (t204.length : Int) = 0 then (if 1 ≤ 2 then (if 2 ≤ (t183.length : Int) then ((allot_Back.f k (⟨#[]⟩ : ByteArray) ([] : List ByteArray) 0 y173 ([] : List (S98)) ([] : List (S100)) ([] : List (S102)) ([] : List (S104)) ([] : List (S106)) ([] : List Int) 0 y177 ((t183.take 2).drop 1)).bind fun t211 => ((bourneref37_SameInts.f k t211 (([0,2,0] : List Int))).bind fun t217 => (some t217))) else (none)) else (none)) else (none))) else (none)))) else (none)) = some r := H
  have A4 := Aside0.mk A40
  clear A40
  by_cases c5 : t196 = true
  ·subst c5
   have H1 : ((allot_Reach.f k (⟨#[]⟩ : ByteArray) ([] : List ByteArray) 0 y173 ([] : List (S98)) ([] : List (S100)) ([] : List (S102)) ([] : List (S104)) ([] : List (S106)) ([] : List Int) 0 0).bind fun t197 => ((bourneref37_SameInts.f k t197 (([0,2] : List Int))).bind fun t203 => (if t203 = true then ((allot_Reach.f k (⟨#[]⟩ : ByteArray) ([] : List ByteArray) 0 y173 ([] : List (S98)) ([] : List (S100)) ([] : List (S102)) ([] : List (S104)) ([] : List (S106)) ([] : List Int) 0 3).bind fun t204 => (if (t204.length : Int) = 0 then (if 1 ≤ 2 then (if 2 ≤ (t183.length : Int) then ((allot_Back.f k (⟨#[]⟩ : ByteArray) ([] : List ByteArray) 0 y173 ([] : List (S98)) ([] : List (S100)) ([] : List (S102)) ([] : List (S104)) ([] : List (S106)) ([] : List Int) 0 y177 ((t183.take 2).drop 1)).bind fun t211 => ((bourneref37_SameInts.f k t211 (([0,2,0] : List Int))).bind fun t217 => (some t217))) else (none)) else (none)) else (none))) else (none)))) = some r := by rw [if_pos rfl] at H;exact H
   clear H
   have H := H1
   clear H1
   replace H := Option.bind_eq_some_iff.mp H
   obtain ⟨t197,A60,H⟩ := H
   replace H : ((bourneref37_SameInts.f k t197 (([0,2] : List Int))).bind fun t203 => (if t203 = true then ((allot_Reach.f k (⟨#[]⟩ : ByteArray) ([] : List ByteArray) 0 y173 ([] : List (S98)) ([] : List (S100)) ([] : List (S102)) ([] : List (S104)) ([] : List (S106)) ([] : List Int) 0 3).bind fun t204 => (if (t204.length : Int) = 0 then (if 1 ≤ 2 then (if 2 ≤ (t183.length : Int) then ((allot_Back.f k (⟨#[]⟩ : ByteArray) ([] : List ByteArray) 0 y173 ([] : List (S98)) ([] : List (S100)) ([] : List (S102)) ([] : List (S104)) ([] : List (S106)) ([] : List Int) 0 y177 ((t183.take 2).drop 1)).bind fun t211 => ((bourneref37_SameInts.f k t211 (([0,2,0] : List Int))).bind fun t217 => (some t217))) else (none)) else (none)) else (none))) else (none))) = some r := H
   have A6 := Aside0.mk A60
   clear A60
   obtain ⟨y200,hy200⟩ : ∃ y_ : List Int,y_ = (([0,2] : List Int)) := ⟨_,rfl⟩
   replace H : ((bourneref37_SameInts.f k t197 y200).bind fun t203 => (if t203 = true then ((allot_Reach.f k (⟨#[]⟩ : ByteArray) ([] : List ByteArray) 0 y173 ([] : List (S98)) ([] : List (S100)) ([] : List (S102)) ([] : List (S104)) ([] : List (S106)) ([] : List Int) 0 3).bind fun t204 => (if (t204.length : Int) = 0 then (if 1 ≤ 2 then (if 2 ≤ (t183.length : Int) then ((allot_Back.f k (⟨#[]⟩ : ByteArray) ([] : List ByteArray) 0 y173 ([] : List (S98)) ([] : List (S100)) ([] : List (S102)) ([] : List (S104)) ([] : List (S106)) ([] : List Int) 0 y177 ((t183.take 2).drop 1)).bind fun t211 => ((bourneref37_SameInts.f k t211 (([0,2,0] : List Int))).bind fun t217 => (some t217))) else (none)) else (none)) else (none))) else (none))) = some r := by first | (rw [hy200];with_reducible exact H) | (have H2_ := (Option.bind_some _ _).symm.trans H;rw [hy200];with_reducible exact H2_) | (have H2_ := (Option.bind_some _ _).symm.trans H;with_reducible exact H2_) | with_reducible exact H | (rw [hy200];exact H) | exact H
   have Ny200 := Aside0.mk hy200
   clear hy200
   replace H := Option.bind_eq_some_iff.mp H
   obtain ⟨t203,A70,H⟩ := H
   replace H : (if t203 = true then ((allot_Reach.f k (⟨#[]⟩ : ByteArray) ([] : List ByteArray) 0 y173 ([] : List (S98)) ([] : List (S100)) ([] : List (S102)) ([] : List (S104)) ([] : List (S106)) ([] : List Int) 0 3).bind fun t204 => (if (t204.length : Int) = 0 then (if 1 ≤ 2 then (if 2 ≤ (t183.length : Int) then ((allot_Back.f k (⟨#[]⟩ : ByteArray) ([] : List ByteArray) 0 y173 ([] : List (S98)) ([] : List (S100)) ([] : List (S102)) ([] : List (S104)) ([] : List (S106)) ([] : List Int) 0 y177 ((t183.take 2).drop 1)).bind fun t211 => ((bourneref37_SameInts.f k t211 (([0,2,0] : List Int))).bind fun t217 => (some t217))) else (none)) else (none)) else (none))) else (none)) = some r := H
   have A7 := Aside0.mk A70
   clear A70
   by_cases c8 : t203 = true
   ·subst c8
    have H1 : ((allot_Reach.f k (⟨#[]⟩ : ByteArray) ([] : List ByteArray) 0 y173 ([] : List (S98)) ([] : List (S100)) ([] : List (S102)) ([] : List (S104)) ([] : List (S106)) ([] : List Int) 0 3).bind fun t204 => (if (t204.length : Int) = 0 then (if 1 ≤ 2 then (if 2 ≤ (t183.length : Int) then ((allot_Back.f k (⟨#[]⟩ : ByteArray) ([] : List ByteArray) 0 y173 ([] : List (S98)) ([] : List (S100)) ([] : List (S102)) ([] : List (S104)) ([] : List (S106)) ([] : List Int) 0 y177 ((t183.take 2).drop 1)).bind fun t211 => ((bourneref37_SameInts.f k t211 (([0,2,0] : List Int))).bind fun t217 => (some t217))) else (none)) else (none)) else (none))) = some r := by rw [if_pos rfl] at H;exact H
    clear H
    have H := H1
    clear H1
    replace H := Option.bind_eq_some_iff.mp H
    obtain ⟨t204,A90,H⟩ := H
    replace H : (if (t204.length : Int) = 0 then (if 1 ≤ 2 then (if 2 ≤ (t183.length : Int) then ((allot_Back.f k (⟨#[]⟩ : ByteArray) ([] : List ByteArray) 0 y173 ([] : List (S98)) ([] : List (S100)) ([] : List (S102)) ([] : List (S104)) ([] : List (S106)) ([] : List Int) 0 y177 ((t183.take 2).drop 1)).bind fun t211 => ((bourneref37_SameInts.f k t211 (([0,2,0] : List Int))).bind fun t217 => (some t217))) else (none)) else (none)) else (none)) = some r := H
    have A9 := Aside0.mk A90
    clear A90
    by_cases c10 : (t204.length : Int) = 0
    ·rw [if_pos c10] at H
     have c10b0 : ((t204.length : Int) == 0) = true := beq_iff_eq.mpr c10
     have c10b1 : ((t204.length : Int) != 0) = false := bne_eq_false_iff_eq.mpr c10
     clear c10
     by_cases c11 : 1 ≤ 2
     ·rw [if_pos c11] at H
      have c11b0 := eq_true c11
      have c11b1 : decide (1 ≤ 2) = true := decide_eq_true c11
      clear c11
      by_cases c12 : 2 ≤ (t183.length : Int)
      ·rw [if_pos c12] at H
       have c12b0 := eq_true c12
       have c12b1 : decide (2 ≤ (t183.length : Int)) = true := decide_eq_true c12
       clear c12
       obtain ⟨y207,hy207⟩ : ∃ y_ : List (S47),y_ = ((t183.take 2).drop 1) := ⟨_,rfl⟩
       replace H : ((allot_Back.f k (⟨#[]⟩ : ByteArray) ([] : List ByteArray) 0 y173 ([] : List (S98)) ([] : List (S100)) ([] : List (S102)) ([] : List (S104)) ([] : List (S106)) ([] : List Int) 0 y177 y207).bind fun t211 => ((bourneref37_SameInts.f k t211 (([0,2,0] : List Int))).bind fun t217 => (some t217))) = some r := by first | (rw [hy207];with_reducible exact H) | (have H2_ := (Option.bind_some _ _).symm.trans H;rw [hy207];with_reducible exact H2_) | (have H2_ := (Option.bind_some _ _).symm.trans H;with_reducible exact H2_) | with_reducible exact H | (rw [hy207];exact H) | exact H
       have Ny207 := Aside0.mk hy207
       clear hy207
       replace H := Option.bind_eq_some_iff.mp H
       obtain ⟨t211,A130,H⟩ := H
       replace H : ((bourneref37_SameInts.f k t211 (([0,2,0] : List Int))).bind fun t217 => (some t217)) = some r := H
       have A13 := Aside0.mk A130
       clear A130
       obtain ⟨y214,hy214⟩ : ∃ y_ : List Int,y_ = (([0,2,0] : List Int)) := ⟨_,rfl⟩
       replace H : ((bourneref37_SameInts.f k t211 y214).bind fun t217 => (some t217)) = some r := by first | (rw [hy214];with_reducible exact H) | (have H2_ := (Option.bind_some _ _).symm.trans H;rw [hy214];with_reducible exact H2_) | (have H2_ := (Option.bind_some _ _).symm.trans H;with_reducible exact H2_) | with_reducible exact H | (rw [hy214];exact H) | exact H
       have Ny214 := Aside0.mk hy214
       clear hy214
       replace H := Option.bind_eq_some_iff.mp H
       obtain ⟨t217,A140,H⟩ := H
       replace H : (some t217) = some r := H
       have A14 := Aside0.mk A140
       clear A140
       obtain rfl := Option.some.inj H
       go_enter Try.func8,Try.ntmps8
       try go_wp2_with (first | ((with_reducible refine gate_dst (N := 9) rfl ?_);(try (refine gate_guard (by rfl) ?_;dsimp only));refine Kd.S_lit k58 _ 58 ?hg (N := 9) ?hd (xs := ([(⟨(⟨#[]⟩ : ByteArray),0,0,0,([] : List (S108)),([] : List Int),0,0,2,0,0,([] : List (S110))⟩ : S58),(⟨(⟨#[]⟩ : ByteArray),0,0,0,([] : List (S108)),([] : List Int),0,0,2,0,0,([] : List (S110))⟩ : S58),(⟨(⟨#[]⟩ : ByteArray),0,0,0,([] : List (S108)),([] : List Int),0,0,(-1),0,0,([] : List (S110))⟩ : S58)] : List (S58))) (inner := [.string (⟨#[]⟩ : ByteArray),.int .i64 0,.int .i64 0,.int .i64 0,.slice none 0 0,.slice none 0 0,.int .i64 0,.int .i64 0,.int .i64 2,.int .i64 0,.int .i64 0,.slice none 0 0,.string (⟨#[]⟩ : ByteArray),.int .i64 0,.int .i64 0,.int .i64 0,.slice none 0 0,.slice none 0 0,.int .i64 0,.int .i64 0,.int .i64 2,.int .i64 0,.int .i64 0,.slice none 0 0,.string (⟨#[]⟩ : ByteArray),.int .i64 0,.int .i64 0,.int .i64 0,.slice none 0 0,.slice none 0 0,.int .i64 0,.int .i64 0,.int .i64 (-1),.int .i64 0,.int .i64 0,.slice none 0 0]) (ok := fun _ => True) (okp := fun _ => True) ?hr ?hp (fun _ hk => hk) trivial (Below.refl _ _) (Nat.le_refl _) (by simp) ?_;(case hd => rfl);(case hg => rfl);(case hr => first | (go_simp;done) | (go_simp;rfl));(case hp => exact (Reps.front (show Kd.M k58 _ _ _ (⟨(⟨#[]⟩ : ByteArray),0,0,0,([] : List (S108)),([] : List Int),0,0,2,0,0,([] : List (S110))⟩ : S58) [.string (⟨#[]⟩ : ByteArray),.int .i64 0,.int .i64 0,.int .i64 0,.slice none 0 0,.slice none 0 0,.int .i64 0,.int .i64 0,.int .i64 2,.int .i64 0,.int .i64 0,.slice none 0 0] from (k58_mkM _ _ _ (⟨(⟨#[]⟩ : ByteArray),0,0,0,([] : List (S108)),([] : List Int),0,0,2,0,0,([] : List (S110))⟩ : S58) (Kd.R_nil _ _ _ _ _) (Kd.R_nil _ _ _ _ _) (Kd.R_nil _ _ _ _ _))) rfl (Reps.front (show Kd.M k58 _ _ _ (⟨(⟨#[]⟩ : ByteArray),0,0,0,([] : List (S108)),([] : List Int),0,0,2,0,0,([] : List (S110))⟩ : S58) [.string (⟨#[]⟩ : ByteArray),.int .i64 0,.int .i64 0,.int .i64 0,.slice none 0 0,.slice none 0 0,.int .i64 0,.int .i64 0,.int .i64 2,.int .i64 0,.int .i64 0,.slice none 0 0] from (k58_mkM _ _ _ (⟨(⟨#[]⟩ : ByteArray),0,0,0,([] : List (S108)),([] : List Int),0,0,2,0,0,([] : List (S110))⟩ : S58) (Kd.R_nil _ _ _ _ _) (Kd.R_nil _ _ _ _ _) (Kd.R_nil _ _ _ _ _))) rfl (Reps.front (show Kd.M k58 _ _ _ (⟨(⟨#[]⟩ : ByteArray),0,0,0,([] : List (S108)),([] : List Int),0,0,(-1),0,0,([] : List (S110))⟩ : S58) [.string (⟨#[]⟩ : ByteArray),.int .i64 0,.int .i64 0,.int .i64 0,.slice none 0 0,.slice none 0 0,.int .i64 0,.int .i64 0,.int .i64 (-1),.int .i64 0,.int .i64 0,.slice none 0 0] from (k58_mkM _ _ _ (⟨(⟨#[]⟩ : ByteArray),0,0,0,([] : List (S108)),([] : List Int),0,0,(-1),0,0,([] : List (S110))⟩ : S58) (Kd.R_nil _ _ _ _ _) (Kd.R_nil _ _ _ _ _) (Kd.R_nil _ _ _ _ _))) rfl (Reps.none _ _) rfl) rfl) rfl));intro v174 w15 ho16 hb hg_ hnew_;clear hg_ hnew_;(first | rw [← Ny173.out] at ho16 | (simp only [Int.reduceToNat] at ho16;rw [← Ny173.out] at ho16));have n0_ := Aside0.mk (Kd.S_lower ho16 (below_size (by repeat (first | (with_reducible first | exact HB.out | apply below_alloc | apply pw_below_drewN | apply below_drew1) | exact HB.out))));have n1_ := Aside0.mk (below_step (by repeat (first | (with_reducible first | exact HB.out | apply below_alloc | apply pw_below_drewN | apply below_drew1) | exact HB.out)) hb);clear HB;have HO175 := n0_;have HB := n1_;clear n0_ n1_;clear hb ho16;obtain ⟨Ao17,co17,eo17⟩ := Kd.S_slice HO175.out;subst eo17) | ((with_reducible refine gate_dst (N := 1) rfl ?_);(try (refine gate_guard (by rfl) ?_;dsimp only));refine box_event ?hg (N := 1) ?hd (cs := #[.string (⟨#[]⟩ : ByteArray),.slice none 0 0,.int .i64 0,.slice none 0 0,.slice none 0 0,.slice none 0 0,.slice none 0 0,.slice none 0 0,.slice none 0 0,.slice none 0 0,.int .i64 0]) (t := 31) ?hr ?_;(case hd => rfl);(case hg => rfl);(case hr => first | (go_simp;done) | (go_simp;rfl));intro gb176 hg w18 hbox hb;have n0_ := Aside0.mk (Kd.S_below (by (with_reducible repeat (first | apply Kd.S_alloc | apply Kd.S_drewN | apply Kd.S_drew));exact HO175.out) hb);have n1_ := Aside0.mk (below_step (by repeat (first | (with_reducible first | exact HB.out | apply below_alloc | apply pw_below_drewN | apply below_drew1) | exact HB.out)) hb);have n2_ := Aside0.mk (hbox);have n3_ := Aside0.mk ((by rw [hg];exact (below_size (by repeat (first | (with_reducible first | exact HB.out | apply below_alloc | apply pw_below_drewN | apply below_drew1) | exact HB.out))) : w.heap.size ≤ gb176));have n4_ := Aside0.mk ((by rw [hg];exact (below_size (by repeat (first | (with_reducible first | exact HB.out | apply below_alloc | apply pw_below_drewN | apply below_drew1) | exact HB.out))) : w.heap.size ≤ gb176));clear HO175;clear HB;have HO175 := n0_;have HB := n1_;have BK176 := n2_;have GW176 := n3_;have GE176 := n4_;clear n0_ n1_ n2_ n3_ n4_;clear hb hbox hg;have hcz19_0 : w18.cell? ⟨gb176,0,none⟩ = some (.string (⟨#[]⟩ : ByteArray)) := (blk_cell BK176.out 0).trans rfl;have hcz19_1 : w18.cell? ⟨gb176,1,none⟩ = some (.slice none 0 0) := (blk_cell BK176.out 1).trans rfl;have hcz19_2 : w18.cell? ⟨gb176,2,none⟩ = some (.int .i64 0) := (blk_cell BK176.out 2).trans rfl;have hcz19_3 : w18.cell? ⟨gb176,3,none⟩ = some (.slice none 0 0) := (blk_cell BK176.out 3).trans rfl;have hcz19_4 : w18.cell? ⟨gb176,4,none⟩ = some (.slice none 0 0) := (blk_cell BK176.out 4).trans rfl;have hcz19_5 : w18.cell? ⟨gb176,5,none⟩ = some (.slice none 0 0) := (blk_cell BK176.out 5).trans rfl;have hcz19_6 : w18.cell? ⟨gb176,6,none⟩ = some (.slice none 0 0) := (blk_cell BK176.out 6).trans rfl;have hcz19_7 : w18.cell? ⟨gb176,7,none⟩ = some (.slice none 0 0) := (blk_cell BK176.out 7).trans rfl;have hcz19_8 : w18.cell? ⟨gb176,8,none⟩ = some (.slice none 0 0) := (blk_cell BK176.out 8).trans rfl;have hcz19_9 : w18.cell? ⟨gb176,9,none⟩ = some (.slice none 0 0) := (blk_cell BK176.out 9).trans rfl;have hcz19_10 : w18.cell? ⟨gb176,10,none⟩ = some (.int .i64 0) := (blk_cell BK176.out 10).trans rfl;have hfz19_0 := blk_frozen BK176.out 0;have hfz19_1 := blk_frozen BK176.out 1;have hfz19_2 := blk_frozen BK176.out 2;have hfz19_3 := blk_frozen BK176.out 3;have hfz19_4 := blk_frozen BK176.out 4;have hfz19_5 := blk_frozen BK176.out 5;have hfz19_6 := blk_frozen BK176.out 6;have hfz19_7 := blk_frozen BK176.out 7;have hfz19_8 := blk_frozen BK176.out 8;have hfz19_9 := blk_frozen BK176.out 9;have hfz19_10 := blk_frozen BK176.out 10) | ((with_reducible refine gate_dst (N := 14) rfl ?_);(try (refine gate_guard (by rfl) ?_;dsimp only));refine Kd.R_lit k45 _ 45 ?hg (N := 14) ?hd (xs := ([(⟨1,0,0,2,30,0,0,0,0⟩ : S45),(⟨2,0,0,0,8,0,0,500,1⟩ : S45),(⟨3,0,0,1,8,0,0,0,0⟩ : S45)] : List (S45))) (inner := [.int .i64 1,.int .i64 0,.int .i64 0,.int .i64 2,.int .i64 30,.int .i64 0,.int .i64 0,.int .i64 0,.int .i64 0,.int .i64 2,.int .i64 0,.int .i64 0,.int .i64 0,.int .i64 8,.int .i64 0,.int .i64 0,.int .i64 500,.int .i64 1,.int .i64 3,.int .i64 0,.int .i64 0,.int .i64 1,.int .i64 8,.int .i64 0,.int .i64 0,.int .i64 0,.int .i64 0]) (ok := fun _ => True) (okp := fun _ => True) ?hr ?hp (fun _ hk => hk) trivial (Below.refl _ _) (Nat.le_refl _) (by simp) ?_;(case hd => rfl);(case hg => rfl);(case hr => first | (go_simp;done) | (go_simp;rfl));(case hp => exact (Reps.c9 (show Kd.M k45 _ _ _ (⟨1,0,0,2,30,0,0,0,0⟩ : S45) [.int .i64 1,.int .i64 0,.int .i64 0,.int .i64 2,.int .i64 30,.int .i64 0,.int .i64 0,.int .i64 0,.int .i64 0] from (k45_mkM _ _ _ (⟨1,0,0,2,30,0,0,0,0⟩ : S45) )) (Reps.c9 (show Kd.M k45 _ _ _ (⟨2,0,0,0,8,0,0,500,1⟩ : S45) [.int .i64 2,.int .i64 0,.int .i64 0,.int .i64 0,.int .i64 8,.int .i64 0,.int .i64 0,.int .i64 500,.int .i64 1] from (k45_mkM _ _ _ (⟨2,0,0,0,8,0,0,500,1⟩ : S45) )) (Reps.c9 (show Kd.M k45 _ _ _ (⟨3,0,0,1,8,0,0,0,0⟩ : S45) [.int .i64 3,.int .i64 0,.int .i64 0,.int .i64 1,.int .i64 8,.int .i64 0,.int .i64 0,.int .i64 0,.int .i64 0] from (k45_mkM _ _ _ (⟨3,0,0,1,8,0,0,0,0⟩ : S45) )) (Reps.none _ _)))));intro v178 w20 ho21 hb hg_ hnew_;clear hg_ hnew_;(first | rw [← Ny177.out] at ho21 | (simp only [Int.reduceToNat] at ho21;rw [← Ny177.out] at ho21));have n0_ := Aside0.mk (Kd.S_below (by (with_reducible repeat (first | apply Kd.S_alloc | apply Kd.S_drewN | apply Kd.S_drew));exact (Kd.S_mono (Kd.S_far (p := ⟨gb176,10,none⟩) (Kd.S_far (p := ⟨gb176,9,none⟩) (Kd.S_far (p := ⟨gb176,8,none⟩) (Kd.S_far (p := ⟨gb176,7,none⟩) (Kd.S_far (p := ⟨gb176,6,none⟩) (Kd.S_far (p := ⟨gb176,5,none⟩) (Kd.S_far (p := ⟨gb176,4,none⟩) (Kd.S_far (p := ⟨gb176,3,none⟩) (Kd.S_far (p := ⟨gb176,2,none⟩) (Kd.S_far (p := ⟨gb176,1,none⟩) (Kd.S_far (p := ⟨gb176,0,none⟩) (Kd.S_types HO175.out BK176.out (by decide)) (fun _ hk => hk.2) (.string (⟨#[]⟩ : ByteArray))) (fun _ hk => hk.2) (.slice none 0 0)) (fun _ hk => hk.2) (.int .i64 0)) (fun _ hk => hk.2) (.slice Ao17 y173.length co17)) (fun _ hk => hk.2) (.slice none 0 0)) (fun _ hk => hk.2) (.slice none 0 0)) (fun _ hk => hk.2) (.slice none 0 0)) (fun _ hk => hk.2) (.slice none 0 0)) (fun _ hk => hk.2) (.slice none 0 0)) (fun _ hk => hk.2) (.slice none 0 0)) (fun _ hk => hk.2) (.int .i64 0)) (fun _ h_ => h_.1))) hb);have n1_ := Aside0.mk (Kd.R_lower ho21 (below_size (by repeat (first | (with_reducible first | exact HB.out | apply below_alloc | apply pw_below_drewN | apply below_drew1 | refine below_set ?_ GE176.out) | exact HB.out))));have n2_ := Aside0.mk (blk_below (g := gb176) (o := .cells #[.string (⟨#[]⟩ : ByteArray),.slice none 0 0,.int .i64 0,.slice Ao17 y173.length co17,.slice none 0 0,.slice none 0 0,.slice none 0 0,.slice none 0 0,.slice none 0 0,.slice none 0 0,.int .i64 0] 31 (0,0)) (by (with_reducible repeat (first | refine blk_drewN ?_ _ | refine blk_drew ?_ | refine blk_alloc ?_ _));refine blk_put (cs := #[.string (⟨#[]⟩ : ByteArray),.slice none 0 0,.int .i64 0,.slice Ao17 y173.length co17,.slice none 0 0,.slice none 0 0,.slice none 0 0,.slice none 0 0,.slice none 0 0,.slice none 0 0,.int .i64 0]) ?_ 10 _ rfl;(with_reducible repeat (first | refine blk_drewN ?_ _ | refine blk_drew ?_ | refine blk_alloc ?_ _));refine blk_put (cs := #[.string (⟨#[]⟩ : ByteArray),.slice none 0 0,.int .i64 0,.slice Ao17 y173.length co17,.slice none 0 0,.slice none 0 0,.slice none 0 0,.slice none 0 0,.slice none 0 0,.slice none 0 0,.int .i64 0]) ?_ 9 _ rfl;(with_reducible repeat (first | refine blk_drewN ?_ _ | refine blk_drew ?_ | refine blk_alloc ?_ _));refine blk_put (cs := #[.string (⟨#[]⟩ : ByteArray),.slice none 0 0,.int .i64 0,.slice Ao17 y173.length co17,.slice none 0 0,.slice none 0 0,.slice none 0 0,.slice none 0 0,.slice none 0 0,.slice none 0 0,.int .i64 0]) ?_ 8 _ rfl;(with_reducible repeat (first | refine blk_drewN ?_ _ | refine blk_drew ?_ | refine blk_alloc ?_ _));refine blk_put (cs := #[.string (⟨#[]⟩ : ByteArray),.slice none 0 0,.int .i64 0,.slice Ao17 y173.length co17,.slice none 0 0,.slice none 0 0,.slice none 0 0,.slice none 0 0,.slice none 0 0,.slice none 0 0,.int .i64 0]) ?_ 7 _ rfl;(with_reducible repeat (first | refine blk_drewN ?_ _ | refine blk_drew ?_ | refine blk_alloc ?_ _));refine blk_put (cs := #[.string (⟨#[]⟩ : ByteArray),.slice none 0 0,.int .i64 0,.slice Ao17 y173.length co17,.slice none 0 0,.slice none 0 0,.slice none 0 0,.slice none 0 0,.slice none 0 0,.slice none 0 0,.int .i64 0]) ?_ 6 _ rfl;(with_reducible repeat (first | refine blk_drewN ?_ _ | refine blk_drew ?_ | refine blk_alloc ?_ _));refine blk_put (cs := #[.string (⟨#[]⟩ : ByteArray),.slice none 0 0,.int .i64 0,.slice Ao17 y173.length co17,.slice none 0 0,.slice none 0 0,.slice none 0 0,.slice none 0 0,.slice none 0 0,.slice none 0 0,.int .i64 0]) ?_ 5 _ rfl;(with_reducible repeat (first | refine blk_drewN ?_ _ | refine blk_drew ?_ | refine blk_alloc ?_ _));refine blk_put (cs := #[.string (⟨#[]⟩ : ByteArray),.slice none 0 0,.int .i64 0,.slice Ao17 y173.length co17,.slice none 0 0,.slice none 0 0,.slice none 0 0,.slice none 0 0,.slice none 0 0,.slice none 0 0,.int .i64 0]) ?_ 4 _ rfl;(with_reducible repeat (first | refine blk_drewN ?_ _ | refine blk_drew ?_ | refine blk_alloc ?_ _));refine blk_put (cs := #[.string (⟨#[]⟩ : ByteArray),.slice none 0 0,.int .i64 0,.slice none 0 0,.slice none 0 0,.slice none 0 0,.slice none 0 0,.slice none 0 0,.slice none 0 0,.slice none 0 0,.int .i64 0]) ?_ 3 _ rfl;(with_reducible repeat (first | refine blk_drewN ?_ _ | refine blk_drew ?_ | refine blk_alloc ?_ _));refine blk_put (cs := #[.string (⟨#[]⟩ : ByteArray),.slice none 0 0,.int .i64 0,.slice none 0 0,.slice none 0 0,.slice none 0 0,.slice none 0 0,.slice none 0 0,.slice none 0 0,.slice none 0 0,.int .i64 0]) ?_ 2 _ rfl;(with_reducible repeat (first | refine blk_drewN ?_ _ | refine blk_drew ?_ | refine blk_alloc ?_ _));refine blk_put (cs := #[.string (⟨#[]⟩ : ByteArray),.slice none 0 0,.int .i64 0,.slice none 0 0,.slice none 0 0,.slice none 0 0,.slice none 0 0,.slice none 0 0,.slice none 0 0,.slice none 0 0,.int .i64 0]) ?_ 1 _ rfl;(with_reducible repeat (first | refine blk_drewN ?_ _ | refine blk_drew ?_ | refine blk_alloc ?_ _));refine blk_put (cs := #[.string (⟨#[]⟩ : ByteArray),.slice none 0 0,.int .i64 0,.slice none 0 0,.slice none 0 0,.slice none 0 0,.slice none 0 0,.slice none 0 0,.slice none 0 0,.slice none 0 0,.int .i64 0]) ?_ 0 _ rfl;(with_reducible repeat (first | refine blk_drewN ?_ _ | refine blk_drew ?_ | refine blk_alloc ?_ _));exact BK176.out) hb);have n3_ := Aside0.mk (below_step (by repeat (first | (with_reducible first | exact HB.out | apply below_alloc | apply pw_below_drewN | apply below_drew1 | refine below_set ?_ GE176.out) | exact HB.out)) hb);clear HO175;clear BK176;clear HB;have HO175 := n0_;have HO179 := n1_;have BK176 := n2_;have HB := n3_;clear n0_ n1_ n2_ n3_;clear hb ho21;have hcz22_0 : w20.cell? ⟨gb176,0,none⟩ = some (.string (⟨#[]⟩ : ByteArray)) := (blk_cell BK176.out 0).trans rfl;have hcz22_1 : w20.cell? ⟨gb176,1,none⟩ = some (.slice none 0 0) := (blk_cell BK176.out 1).trans rfl;have hcz22_2 : w20.cell? ⟨gb176,2,none⟩ = some (.int .i64 0) := (blk_cell BK176.out 2).trans rfl;have hcz22_3 : w20.cell? ⟨gb176,3,none⟩ = some (.slice Ao17 y173.length co17) := (blk_cell BK176.out 3).trans rfl;have hcz22_4 : w20.cell? ⟨gb176,4,none⟩ = some (.slice none 0 0) := (blk_cell BK176.out 4).trans rfl;have hcz22_5 : w20.cell? ⟨gb176,5,none⟩ = some (.slice none 0 0) := (blk_cell BK176.out 5).trans rfl;have hcz22_6 : w20.cell? ⟨gb176,6,none⟩ = some (.slice none 0 0) := (blk_cell BK176.out 6).trans rfl;have hcz22_7 : w20.cell? ⟨gb176,7,none⟩ = some (.slice none 0 0) := (blk_cell BK176.out 7).trans rfl;have hcz22_8 : w20.cell? ⟨gb176,8,none⟩ = some (.slice none 0 0) := (blk_cell BK176.out 8).trans rfl;have hcz22_9 : w20.cell? ⟨gb176,9,none⟩ = some (.slice none 0 0) := (blk_cell BK176.out 9).trans rfl;have hcz22_10 : w20.cell? ⟨gb176,10,none⟩ = some (.int .i64 0) := (blk_cell BK176.out 10).trans rfl;have hfz22_0 := blk_frozen BK176.out 0;have hfz22_1 := blk_frozen BK176.out 1;have hfz22_2 := blk_frozen BK176.out 2;have hfz22_3 := blk_frozen BK176.out 3;have hfz22_4 := blk_frozen BK176.out 4;have hfz22_5 := blk_frozen BK176.out 5;have hfz22_6 := blk_frozen BK176.out 6;have hfz22_7 := blk_frozen BK176.out 7;have hfz22_8 := blk_frozen BK176.out 8;have hfz22_9 := blk_frozen BK176.out 9;have hfz22_10 := blk_frozen BK176.out 10) | ((with_reducible refine gate_dst (N := 18) rfl ?_);(try (refine gate_guard (by rfl) ?_;dsimp only));refine Kd.R_lit (Kd.int .i64) _ 3 ?hg (N := 18) ?hd (xs := ([10,20,5] : List Int)) (inner := [.int .i64 10,.int .i64 20,.int .i64 5]) (ok := fun _ => True) (okp := fun _ => True) ?hr ?hp (fun _ hk => hk) trivial (Below.refl _ _) (Nat.le_refl _) (by simp) ?_;(case hd => rfl);(case hg => rfl);(case hr => first | (go_simp;done) | (go_simp;rfl));(case hp => exact (Reps.one (show Kd.M (Kd.int .i64) _ _ _ 10 [.int .i64 10] from rfl) (Reps.one (show Kd.M (Kd.int .i64) _ _ _ 20 [.int .i64 20] from rfl) (Reps.one (show Kd.M (Kd.int .i64) _ _ _ 5 [.int .i64 5] from rfl) (Reps.none _ _)))));intro v181 w23 ho24 hb hg_ hnew_;clear hg_ hnew_;(first | rw [← Ny180.out] at ho24 | (simp only [Int.reduceToNat] at ho24;rw [← Ny180.out] at ho24));have n0_ := Aside0.mk (Kd.S_elder' (by (with_reducible repeat (first | apply Kd.S_alloc | apply Kd.S_drewN | apply Kd.S_drew));exact HO175.out) (Kd.R_base ho24) hb);have n1_ := Aside0.mk (Kd.R_below (by (with_reducible repeat (first | apply Kd.R_alloc | apply Kd.R_drewN | apply Kd.R_drew));exact HO179.out) hb);have n2_ := Aside0.mk (Kd.R_lower ho24 (below_size (by repeat (first | (with_reducible first | exact HB.out | apply below_alloc | apply pw_below_drewN | apply below_drew1 | refine below_set ?_ GE176.out) | exact HB.out))));have n3_ := Aside0.mk (blk_below (g := gb176) (o := .cells #[.string (⟨#[]⟩ : ByteArray),.slice none 0 0,.int .i64 0,.slice Ao17 y173.length co17,.slice none 0 0,.slice none 0 0,.slice none 0 0,.slice none 0 0,.slice none 0 0,.slice none 0 0,.int .i64 0] 31 (0,0)) (by (with_reducible repeat (first | refine blk_drewN ?_ _ | refine blk_drew ?_ | refine blk_alloc ?_ _));exact BK176.out) hb);have n4_ := Aside0.mk (below_step (by repeat (first | (with_reducible first | exact HB.out | apply below_alloc | apply pw_below_drewN | apply below_drew1 | refine below_set ?_ GE176.out) | exact HB.out)) hb);clear HO175;clear HO179;clear BK176;clear HB;have HO175 := n0_;have HO179 := n1_;have HO182 := n2_;have BK176 := n3_;have HB := n4_;clear n0_ n1_ n2_ n3_ n4_;clear hb ho24;obtain ⟨Ao25,co25,eo25⟩ := Kd.R_slice HO179.out;subst eo25;obtain ⟨Ao26,co26,eo26⟩ := Kd.R_slice HO182.out;subst eo26) | ((with_reducible refine gate_callee (f := 10) rfl ?_);refine goesL_ (some 19) rfl rfl Try.func10 (by kernel_rfl) rfl #[.agg #[.string (⟨#[]⟩ : ByteArray),.slice none 0 0,.int .i64 0,.slice Ao17 y173.length co17,.slice none 0 0,.slice none 0 0,.slice none 0 0,.slice none 0 0,.slice none 0 0,.slice none 0 0,.int .i64 0],.slice Ao25 y177.length co25,.slice Ao26 y180.length co26] rfl (by (try simp only [List.map_toArray,List.map_cons,List.map_nil]);first | done | rfl | (simp only [List.length_drop,List.length_take];rfl)) ?_;(refine (allot_Day.calls k (⟨#[]⟩ : ByteArray) _ _ ([] : List ByteArray) 0 _ _ y173 _ _ ([] : List (S98)) _ _ ([] : List (S100)) _ _ ([] : List (S102)) _ _ ([] : List (S104)) _ _ ([] : List (S106)) _ _ ([] : List Int) 0 _ _ y177 _ _ y180 t183 t186 _ ?side1 ?side2 ?side3 ?side4 ?side5 ?side6 ?side7 ?side8 ?side9 ?side10 ?side11 ?side12 ?side13 ?side14 ?side15 ?side16 ?side17 ?side18 ?side19 ?side20 A1.out).mono ?_);(case side1 => exact Kd.C_nil _ _);(case side2 => exact Nat.le_refl _);(case side3 => repeat (first | exact (Kd.S_reads' HO175.out).2.2 | (with_reducible refine Kd.C_alloc ?_ _) | (with_reducible refine Kd.C_drewN ?_ _) | (with_reducible refine Kd.C_drew ?_)));(case side4 => exact (Kd.S_reads' HO175.out).2.1);(case side5 => exact Kd.C_nil _ _);(case side6 => exact Nat.le_refl _);(case side7 => exact Kd.C_nil _ _);(case side8 => exact Nat.le_refl _);(case side9 => exact Kd.C_nil _ _);(case side10 => exact Nat.le_refl _);(case side11 => exact Kd.C_nil _ _);(case side12 => exact Nat.le_refl _);(case side13 => exact Kd.C_nil _ _);(case side14 => exact Nat.le_refl _);(case side15 => exact Kd.C_nil _ _);(case side16 => exact Nat.le_refl _);(case side17 => repeat (first | exact (Kd.R_reads' HO179.out).2.2 | (with_reducible refine Kd.C_alloc ?_ _) | (with_reducible refine Kd.C_drewN ?_ _) | (with_reducible refine Kd.C_drew ?_)));(case side18 => exact (Kd.R_reads' HO179.out).2.1);(case side19 => repeat (first | exact (Kd.R_reads' HO182.out).2.2 | (with_reducible refine Kd.C_alloc ?_ _) | (with_reducible refine Kd.C_drewN ?_ _) | (with_reducible refine Kd.C_drew ?_)));(case side20 => exact (Kd.R_reads' HO182.out).2.1);rintro e w27 ⟨v184,v187,rfl,ho0,ho1,hb⟩;refine ⟨_,rfl,?_⟩;have n0_ := Aside0.mk (Kd.S_elder' (by (with_reducible repeat (first | apply Kd.S_alloc | apply Kd.S_drewN | apply Kd.S_drew));exact HO175.out) (Kd.R_base ho1) hb);have n1_ := Aside0.mk (Kd.R_below (by (with_reducible repeat (first | apply Kd.R_alloc | apply Kd.R_drewN | apply Kd.R_drew));exact HO179.out) hb);have n2_ := Aside0.mk (Kd.R_elder' (by (with_reducible repeat (first | apply Kd.R_alloc | apply Kd.R_drewN | apply Kd.R_drew));exact HO182.out) (Kd.R_base ho1) hb);have n3_ := Aside0.mk (Kd.R_lower ho0 (below_size (by repeat (first | (with_reducible first | exact HB.out | apply below_alloc | apply pw_below_drewN | apply below_drew1 | refine below_set ?_ GE176.out) | exact HB.out))));have n4_ := Aside0.mk (Kd.R_lower (Kd.R_new' ho1 (Kd.R_lt (by (with_reducible repeat (first | apply Kd.R_alloc | apply Kd.R_drewN | apply Kd.R_drew));exact HO182.out))) (below_size (by repeat (first | (with_reducible first | exact HB.out | apply below_alloc | apply pw_below_drewN | apply below_drew1 | refine below_set ?_ GE176.out) | exact HB.out))));have n5_ := Aside0.mk (blk_below (g := gb176) (o := .cells #[.string (⟨#[]⟩ : ByteArray),.slice none 0 0,.int .i64 0,.slice Ao17 y173.length co17,.slice none 0 0,.slice none 0 0,.slice none 0 0,.slice none 0 0,.slice none 0 0,.slice none 0 0,.int .i64 0] 31 (0,0)) (by (with_reducible repeat (first | refine blk_drewN ?_ _ | refine blk_drew ?_ | refine blk_alloc ?_ _));exact BK176.out) hb);have n6_ := Aside0.mk (below_step (by repeat (first | (with_reducible first | exact HB.out | apply below_alloc | apply pw_below_drewN | apply below_drew1 | refine below_set ?_ GE176.out) | exact HB.out)) hb);clear HO175;clear HO179;clear HO182;clear BK176;clear HB;have HO175 := n0_;have HO179 := n1_;have HO182 := n2_;have HO185 := n3_;have HO188 := n4_;have BK176 := n5_;have HB := n6_;clear n0_ n1_ n2_ n3_ n4_ n5_ n6_;(try clear hb);(try clear hb2);(try clear hk);(try clear hi);(try clear ho0);(try clear ho1)) | ((with_reducible refine gate_dst (N := 25) rfl ?_);(try (refine gate_guard (by rfl) ?_;dsimp only));refine Kd.R_lit k47 _ 47 ?hg (N := 25) ?hd (xs := ([(⟨1,30⟩ : S47),(⟨2,5⟩ : S47),(⟨3,0⟩ : S47)] : List (S47))) (inner := [.int .i64 1,.int .i64 30,.int .i64 2,.int .i64 5,.int .i64 3,.int .i64 0]) (ok := fun _ => True) (okp := fun _ => True) ?hr ?hp (fun _ hk => hk) trivial (Below.refl _ _) (Nat.le_refl _) (by simp) ?_;(case hd => rfl);(case hg => rfl);(case hr => first | (go_simp;done) | (go_simp;rfl));(case hp => exact (Reps.c2 (show Kd.M k47 _ _ _ (⟨1,30⟩ : S47) [.int .i64 1,.int .i64 30] from (k47_mkM _ _ _ (⟨1,30⟩ : S47) )) (Reps.c2 (show Kd.M k47 _ _ _ (⟨2,5⟩ : S47) [.int .i64 2,.int .i64 5] from (k47_mkM _ _ _ (⟨2,5⟩ : S47) )) (Reps.c2 (show Kd.M k47 _ _ _ (⟨3,0⟩ : S47) [.int .i64 3,.int .i64 0] from (k47_mkM _ _ _ (⟨3,0⟩ : S47) )) (Reps.none _ _)))));intro v190 w28 ho29 hb hg_ hnew_;clear hg_ hnew_;(first | rw [← Ny189.out] at ho29 | (simp only [Int.reduceToNat] at ho29;rw [← Ny189.out] at ho29));have n0_ := Aside0.mk (Kd.S_below (by (with_reducible repeat (first | apply Kd.S_alloc | apply Kd.S_drewN | apply Kd.S_drew));exact HO175.out) hb);have n1_ := Aside0.mk (Kd.R_below (by (with_reducible repeat (first | apply Kd.R_alloc | apply Kd.R_drewN | apply Kd.R_drew));exact HO179.out) hb);have n2_ := Aside0.mk (Kd.R_below (by (with_reducible repeat (first | apply Kd.R_alloc | apply Kd.R_drewN | apply Kd.R_drew));exact HO182.out) hb);have n3_ := Aside0.mk (Kd.R_elder' (by (with_reducible repeat (first | apply Kd.R_alloc | apply Kd.R_drewN | apply Kd.R_drew));exact HO185.out) (Kd.R_base ho29) hb);have n4_ := Aside0.mk (Kd.R_below (by (with_reducible repeat (first | apply Kd.R_alloc | apply Kd.R_drewN | apply Kd.R_drew));exact HO188.out) hb);have n5_ := Aside0.mk (Kd.R_lower (Kd.R_new' ho29 (Kd.R_lt (by (with_reducible repeat (first | apply Kd.R_alloc | apply Kd.R_drewN | apply Kd.R_drew));exact HO185.out))) (below_size (by repeat (first | (with_reducible first | exact HB.out | apply below_alloc | apply pw_below_drewN | apply below_drew1 | refine below_set ?_ GE176.out) | exact HB.out))));have n6_ := Aside0.mk (blk_below (g := gb176) (o := .cells #[.string (⟨#[]⟩ : ByteArray),.slice none 0 0,.int .i64 0,.slice Ao17 y173.length co17,.slice none 0 0,.slice none 0 0,.slice none 0 0,.slice none 0 0,.slice none 0 0,.slice none 0 0,.int .i64 0] 31 (0,0)) (by (with_reducible repeat (first | refine blk_drewN ?_ _ | refine blk_drew ?_ | refine blk_alloc ?_ _));exact BK176.out) hb);have n7_ := Aside0.mk (below_step (by repeat (first | (with_reducible first | exact HB.out | apply below_alloc | apply pw_below_drewN | apply below_drew1 | refine below_set ?_ GE176.out) | exact HB.out)) hb);clear HO175;clear HO179;clear HO182;clear HO185;clear HO188;clear BK176;clear HB;have HO175 := n0_;have HO179 := n1_;have HO182 := n2_;have HO185 := n3_;have HO188 := n4_;have HO191 := n5_;have BK176 := n6_;have HB := n7_;clear n0_ n1_ n2_ n3_ n4_ n5_ n6_ n7_;clear hb ho29;obtain ⟨Ao30,co30,eo30⟩ := Kd.R_slice HO185.out;subst eo30;obtain ⟨Ao31,co31,eo31⟩ := Kd.R_slice HO191.out;subst eo31;obtain ⟨Ao32,co32,eo32⟩ := Kd.R_slice HO188.out;subst eo32))
       (repeat (rw [drewN_self w28];generalize hq_ : World.drewN w28 _ = w28;have n0_ : Aside0 (Kd.S k58 58 w28 w.heap.size (fun k_ => some k_ ≠ (.slice Ao26 y180.length co26 : Value).ownBlock ∧ some k_ ≠ (.slice Ao32 t186.length co32 : Value).ownBlock) (.slice Ao17 y173.length co17) y173) := ⟨by rw [← hq_];exact (by (with_reducible repeat (first | apply Kd.S_alloc | apply Kd.S_drewN | apply Kd.S_drew));exact Kd.S_mono HO175.out (fun _ hk => ⟨hk.1.2,hk.2⟩))⟩;have n1_ : Aside0 (Kd.R k45 45 w28 w.heap.size (fun _ => True) (.slice Ao25 y177.length co25) y177) := ⟨by rw [← hq_];exact (by (with_reducible repeat (first | apply Kd.R_alloc | apply Kd.R_drewN | apply Kd.R_drew));exact HO179.out)⟩;have n2_ : Aside0 (Kd.R (Kd.int .i64) 3 w28 w.heap.size (fun k_ => some k_ ≠ (.slice Ao32 t186.length co32 : Value).ownBlock) (.slice Ao26 y180.length co26) y180) := ⟨by rw [← hq_];exact (by (with_reducible repeat (first | apply Kd.R_alloc | apply Kd.R_drewN | apply Kd.R_drew));exact Kd.R_mono HO182.out (fun _ hk => hk.2))⟩;have n3_ : Aside0 (Kd.R k47 47 w28 w.heap.size (fun k_ => some k_ ≠ (.slice Ao31 y189.length co31 : Value).ownBlock) (.slice Ao30 t183.length co30) t183) := ⟨by rw [← hq_];exact (by (with_reducible repeat (first | apply Kd.R_alloc | apply Kd.R_drewN | apply Kd.R_drew));exact Kd.R_mono HO185.out (fun _ hk => hk.2))⟩;have n4_ : Aside0 (Kd.R (Kd.int .i64) 3 w28 w.heap.size (fun k_ => some k_ ≠ (.slice Ao26 y180.length co26 : Value).ownBlock) (.slice Ao32 t186.length co32) t186) := ⟨by rw [← hq_];exact (by (with_reducible repeat (first | apply Kd.R_alloc | apply Kd.R_drewN | apply Kd.R_drew));exact Kd.R_mono HO188.out (fun _ hk => hk.2))⟩;have n5_ : Aside0 (Kd.R k47 47 w28 w.heap.size (fun k_ => some k_ ≠ (.slice Ao30 t183.length co30 : Value).ownBlock) (.slice Ao31 y189.length co31) y189) := ⟨by rw [← hq_];exact (by (with_reducible repeat (first | apply Kd.R_alloc | apply Kd.R_drewN | apply Kd.R_drew));exact Kd.R_mono HO191.out (fun _ hk => hk.2))⟩;have n6_ : Aside0 (w28.heap[gb176]? = some (.cells #[.string (⟨#[]⟩ : ByteArray),.slice none 0 0,.int .i64 0,.slice Ao17 y173.length co17,.slice none 0 0,.slice none 0 0,.slice none 0 0,.slice none 0 0,.slice none 0 0,.slice none 0 0,.int .i64 0] 31 (0,0))) := ⟨by rw [← hq_];exact (by (with_reducible repeat (first | refine blk_drewN ?_ _ | refine blk_drew ?_ | refine blk_alloc ?_ _));exact BK176.out)⟩;have n7_ : Aside0 (Below w.heap.size w w28) := ⟨by rw [← hq_];exact (by repeat (first | (with_reducible first | exact HB.out | apply below_alloc | apply pw_below_drewN | apply below_drew1 | refine below_set ?_ GE176.out) | exact HB.out))⟩;clear HO175 HO179 HO182 HO185 HO188 HO191 BK176 HB hq_;have HO175 := n0_;have HO179 := n1_;have HO182 := n2_;have HO185 := n3_;have HO188 := n4_;have HO191 := n5_;have BK176 := n6_;have HB := n7_;clear n0_ n1_ n2_ n3_ n4_ n5_ n6_ n7_))
       have q49 : (2 : Int) ≤ ((t183.length : Int) : Int) := of_decide_eq_true (by first | (with_reducible assumption) | assumption)
       obtain ⟨i049,hi049,_,hsz49,_⟩ := info_parts info47
       have hroom49 : t183.length ≤ co30 := (Kd.R_reads' HO185.out).2.1
       have hC49 : Kd.C k47 _ Ao30 t183.length t183 := (Kd.R_reads' HO185.out).2.2
       have ql49 : (1 : Int) ≤ (2 : Int) := (by omega)
       have hcut49 := cut_mid (P := Try.prog) 33 47 .i64 .i64 Try.underlying33 hi049 2 hsz49 Ao30 t183.length co30 1 2 (by omega) ql49 q49 hroom49
       have hr49 := Kd.C_mid (lo := (1 : Int).toNat) (hi := (2 : Int).toNat) (c := co30) hC49 (by omega) (by omega) hroom49
       obtain ⟨A49,hA49⟩ : ∃ A1,A1 = (if co30 = (1 : Int).toNat then Ao30 else (Ao30 : Option Addr).map (·.add ((1 : Int).toNat * 2))) := ⟨_,rfl⟩
       obtain ⟨c49,hc49⟩ : ∃ c1,c1 = co30 - (1 : Int).toNat := ⟨_,rfl⟩
       have hy49 : y207.length = (2 : Int).toNat - (1 : Int).toNat := (by rw [Ny207.out,List.length_drop,List.length_take] <;> omega)
       rw [show ((t183).take (2 : Int).toNat).drop (1 : Int).toNat = y207 from Ny207.out.symm] at hr49
       replace hr49 : Kd.C k47 _ A49 y207.length y207 := (by rw [hA49];exact hr49)
       rw [← hy49,← hA49,← hc49] at hcut49
       have HR210 := Aside0.mk hr49
       have HC210 := Aside0.mk (show y207.length ≤ c49 from by rw [hy49,hc49];exact Nat.sub_le_sub_right (Nat.le_trans (by omega) hroom49) _)
       clear hr49 hC49 hroom49 hi049 hsz49
       have KY49 := Aside0.mk hy49
       have n0_ := Aside0.mk (Kd.S_drew HO175.out)
       have n1_ := Aside0.mk (Kd.R_drew HO179.out)
       have n2_ := Aside0.mk (Kd.R_drew HO182.out)
       have n3_ := Aside0.mk (Kd.R_drew HO185.out)
       have n4_ := Aside0.mk (Kd.R_drew HO188.out)
       have n5_ := Aside0.mk (Kd.R_drew HO191.out)
       have n6_ := Aside0.mk (blk_drew BK176.out)
       have n7_ := Aside0.mk (below_drew1 HB.out)
       clear HO175
       clear HO179
       clear HO182
       clear HO185
       clear HO188
       clear HO191
       clear BK176
       clear HB
       have HO175 := n0_
       have HO179 := n1_
       have HO182 := n2_
       have HO185 := n3_
       have HO188 := n4_
       have HO191 := n5_
       have BK176 := n6_
       have HB := n7_
       clear n0_ n1_ n2_ n3_ n4_ n5_ n6_ n7_
       refine start_ (n := 30) (S := fun w' => w'.cell? ⟨gb176,0,none⟩ = some (.string (⟨#[]⟩ : ByteArray)) ∧ w'.cell? ⟨gb176,1,none⟩ = some (.slice none 0 0) ∧ w'.cell? ⟨gb176,2,none⟩ = some (.int .i64 0) ∧ w'.cell? ⟨gb176,3,none⟩ = some (.slice Ao17 y173.length co17) ∧ w'.cell? ⟨gb176,4,none⟩ = some (.slice none 0 0) ∧ w'.cell? ⟨gb176,5,none⟩ = some (.slice none 0 0) ∧ w'.cell? ⟨gb176,6,none⟩ = some (.slice none 0 0) ∧ w'.cell? ⟨gb176,7,none⟩ = some (.slice none 0 0) ∧ w'.cell? ⟨gb176,8,none⟩ = some (.slice none 0 0) ∧ w'.cell? ⟨gb176,9,none⟩ = some (.slice none 0 0) ∧ w'.cell? ⟨gb176,10,none⟩ = some (.int .i64 0)) (ds := []) #[false,false,false,false,false,false,false,false,false,false,false,false,false,false,false,false,false,false,false,false,false,false,false,false,false,false,false,false,false,false] (by kernel_rfl) rfl rfl ⟨(blk_cell BK176.out 0).trans rfl,(blk_cell BK176.out 1).trans rfl,(blk_cell BK176.out 2).trans rfl,(blk_cell BK176.out 3).trans rfl,(blk_cell BK176.out 4).trans rfl,(blk_cell BK176.out 5).trans rfl,(blk_cell BK176.out 6).trans rfl,(blk_cell BK176.out 7).trans rfl,(blk_cell BK176.out 8).trans rfl,(blk_cell BK176.out 9).trans rfl,(blk_cell BK176.out 10).trans rfl⟩ (fun hHeld => ?_);refine with_tabW bournelaw37_small.tab5 bournelaw37_small.bits5 (fun HT_ HW_ => ?_)
       generalize w28.drew = w33 at HO175 HO179 HO182 HO185 HO188 HO191 BK176 HB hHeld ⊢
       refine pure_ (i := 0) (N := some 26) (v := ?_) (a' := ?_) #[true,false,false,false,false,false,false,false,false,false,false,false,false,false,false,false,false,false,false,false,false,false,false,false,false,false,false,false,false,false] rfl rfl (any_of HT_.out (by kernel_rfl)) (fun _ _ _ h => h) (Or.inl ⟨by rfl,?_⟩) ?_ ?_
       rotate_left
       ·intro w'
        go_simp
        with_reducible rfl
       rotate_left
       ·simp only [Act.put,List.setIfInBounds_toArray,List.set_cons_zero,List.set_cons_succ,i64_w,i32_w]
        rfl
       refine pure_ (i := 1) (N := some 27) (v := ?_) (a' := ?_) #[true,true,false,false,false,false,false,false,false,false,false,false,false,false,false,false,false,false,false,false,false,false,false,false,false,false,false,false,false,false] rfl rfl (any_of HT_.out (by kernel_rfl)) (fun _ _ _ h => h) (Or.inl ⟨by rfl,?_⟩) ?_ ?_
       rotate_left
       ·intro w'
        go_simp
        with_reducible rfl
       rotate_left
       ·simp only [Act.put,List.setIfInBounds_toArray,List.set_cons_zero,List.set_cons_succ,i64_w,i32_w]
        rfl
       refine one_ (i := 2) (N := some 28) #[true,true,true,false,false,false,false,false,false,false,false,false,false,false,false,false,false,false,false,false,false,false,false,false,false,false,false,false,false,false] rfl rfl (one_of HT_.out (by kernel_rfl)) (by decide) (fun K hK => ?_)
       refine goes_ Try.func17 (by kernel_rfl) rfl #[.slice Ao30 t183.length co30,.slice Ao31 y189.length co31] (by rfl) rfl rfl (by (try simp only [List.map_toArray,List.map_cons,List.map_nil]);first | done | rfl | (simp only [List.length_drop,List.length_take];rfl)) ?_
       with_reducible refine (bourneref37_Same.calls k _ _ t183 _ _ y189 true _ ?side1 ?side2 ?side3 ?side4 A2.out).mono ?_
       (case side1 => repeat (first | exact (Kd.R_reads' HO185.out).2.2 | (with_reducible refine Kd.C_alloc ?_ _) | (with_reducible refine Kd.C_drewN ?_ _) | (with_reducible refine Kd.C_drew ?_)))
       (case side2 => exact (Kd.R_reads' HO185.out).2.1)
       (case side3 => repeat (first | exact (Kd.R_reads' HO191.out).2.2 | (with_reducible refine Kd.C_alloc ?_ _) | (with_reducible refine Kd.C_drewN ?_ _) | (with_reducible refine Kd.C_drew ?_)))
       (case side4 => exact (Kd.R_reads' HO191.out).2.1)
       rintro e w' ⟨rfl,⟨nd,rfl⟩⟩
       refine ⟨_,rfl,?_⟩
       refine hK.out _ _ ⟨(blk_cell BK176.out 0).trans rfl,(blk_cell BK176.out 1).trans rfl,(blk_cell BK176.out 2).trans rfl,(blk_cell BK176.out 3).trans rfl,(blk_cell BK176.out 4).trans rfl,(blk_cell BK176.out 5).trans rfl,(blk_cell BK176.out 6).trans rfl,(blk_cell BK176.out 7).trans rfl,(blk_cell BK176.out 8).trans rfl,(blk_cell BK176.out 9).trans rfl,(blk_cell BK176.out 10).trans rfl⟩ (fun hHeld => ?_)
       clear hK K
       refine norm_ (a' := ?_) ?_ ?_
       rotate_left
       ·show Act.put _ (some 28) _ = _
        simp only [Act.put,List.setIfInBounds_toArray,List.set_cons_zero,List.set_cons_succ,i64_w,i32_w]
        rfl
       refine pure_ (i := 3) (N := some 29) (v := ?_) (a' := ?_) #[true,true,true,true,false,false,false,false,false,false,false,false,false,false,false,false,false,false,false,false,false,false,false,false,false,false,false,false,false,false] rfl rfl (any_of HT_.out (by kernel_rfl)) (fun _ _ _ h => h) (Or.inl ⟨by rfl,?_⟩) ?_ ?_
       rotate_left
       ·intro w'
        go_simp
        with_reducible rfl
       rotate_left
       ·simp only [Act.put,List.setIfInBounds_toArray,List.set_cons_zero,List.set_cons_succ,i64_w,i32_w]
        rfl
       refine pure_ (i := 4) (N := some 30) (v := ?_) (a' := ?_) #[true,true,true,true,true,false,false,false,false,false,false,false,false,false,false,false,false,false,false,false,false,false,false,false,false,false,false,false,false,false] rfl rfl (any_of HT_.out (by kernel_rfl)) (fun _ _ _ h => h) (Or.inl ⟨by rfl,?_⟩) ?_ ?_
       rotate_left
       ·intro w'
        go_simp
        with_reducible rfl
       rotate_left
       ·simp only [Act.put,List.setIfInBounds_toArray,List.set_cons_zero,List.set_cons_succ,i64_w,i32_w]
        rfl
       refine one_ (i := 5) (N := some 31) #[true,true,true,true,true,true,false,false,false,false,false,false,false,false,false,false,false,false,false,false,false,false,false,false,false,false,false,false,false,false] rfl rfl (one_of HT_.out (by kernel_rfl)) (by decide) (fun K hK => ?_)
       refine Kd.R_lit_step (Kd.int .i64) _ 3 ?hg (N := 31) ?hd (xs := ([5,20,0] : List Int)) (inner := [.int .i64 5,.int .i64 20,.int .i64 0]) (ok := fun _ => True) (okp := fun _ => True) ?hr ?hp (fun _ hk => hk) trivial (Below.refl _ _) (Nat.le_refl _) (by simp) ?_;(case hd => rfl);(case hg => rfl);(case hr => first | (go_simp;done) | (go_simp;rfl));(case hp => exact (Reps.one (show Kd.M (Kd.int .i64) _ _ _ 5 [.int .i64 5] from rfl) (Reps.one (show Kd.M (Kd.int .i64) _ _ _ 20 [.int .i64 20] from rfl) (Reps.one (show Kd.M (Kd.int .i64) _ _ _ 0 [.int .i64 0] from rfl) (Reps.none _ _)))))
       intro v194 w34 ho35 hb hg_ hnew_
       clear hg_ hnew_
       (first | rw [← Ny193.out] at ho35 | (simp only [Int.reduceToNat] at ho35;rw [← Ny193.out] at ho35))
       have n0_ := Aside0.mk (Kd.S_elder' (by (with_reducible repeat (first | apply Kd.S_alloc | apply Kd.S_drewN | apply Kd.S_drew));exact HO175.out) (Kd.R_base ho35) hb)
       have n1_ := Aside0.mk (Kd.R_below (by (with_reducible repeat (first | apply Kd.R_alloc | apply Kd.R_drewN | apply Kd.R_drew));exact HO179.out) hb)
       have n2_ := Aside0.mk (Kd.R_elder' (by (with_reducible repeat (first | apply Kd.R_alloc | apply Kd.R_drewN | apply Kd.R_drew));exact HO182.out) (Kd.R_base ho35) hb)
       have n3_ := Aside0.mk (Kd.R_below (by (with_reducible repeat (first | apply Kd.R_alloc | apply Kd.R_drewN | apply Kd.R_drew));exact HO185.out) hb)
       have n4_ := Aside0.mk (Kd.R_elder' (by (with_reducible repeat (first | apply Kd.R_alloc | apply Kd.R_drewN | apply Kd.R_drew));exact HO188.out) (Kd.R_base ho35) hb)
       have n5_ := Aside0.mk (Kd.R_below (by (with_reducible repeat (first | apply Kd.R_alloc | apply Kd.R_drewN | apply Kd.R_drew));exact HO191.out) hb)
       have n6_ := Aside0.mk (Kd.R_lower (Kd.R_new' (Kd.R_new' ho35 (Kd.R_lt (by (with_reducible repeat (first | apply Kd.R_alloc | apply Kd.R_drewN | apply Kd.R_drew));exact HO182.out))) (Kd.R_lt (by (with_reducible repeat (first | apply Kd.R_alloc | apply Kd.R_drewN | apply Kd.R_drew));exact HO188.out))) (below_size (by repeat (first | (with_reducible first | exact HB.out | apply below_alloc | apply pw_below_drewN | apply below_drew1 | refine below_set ?_ GE176.out) | exact HB.out))))
       have n7_ := Aside0.mk (blk_below (g := gb176) (o := .cells #[.string (⟨#[]⟩ : ByteArray),.slice none 0 0,.int .i64 0,.slice Ao17 y173.length co17,.slice none 0 0,.slice none 0 0,.slice none 0 0,.slice none 0 0,.slice none 0 0,.slice none 0 0,.int .i64 0] 31 (0,0)) (by (with_reducible repeat (first | refine blk_drewN ?_ _ | refine blk_drew ?_ | refine blk_alloc ?_ _));exact BK176.out) hb)
       have n8_ := Aside0.mk (below_step (by repeat (first | (with_reducible first | exact HB.out | apply below_alloc | apply pw_below_drewN | apply below_drew1 | refine below_set ?_ GE176.out) | exact HB.out)) hb)
       clear HO175
       clear HO179
       clear HO182
       clear HO185
       clear HO188
       clear HO191
       clear BK176
       clear HB
       have HO175 := n0_
       have HO179 := n1_
       have HO182 := n2_
       have HO185 := n3_
       have HO188 := n4_
       have HO191 := n5_
       have HO195 := n6_
       have BK176 := n7_
       have HB := n8_
       clear n0_ n1_ n2_ n3_ n4_ n5_ n6_ n7_ n8_
       clear hb ho35
       obtain ⟨Ao36,co36,eo36⟩ := Kd.R_slice HO195.out
       (first | subst eo36 | (injection eo36 with f1_ f2_ f3_;have f4_ := f1_.symm;have f5_ := f3_.symm;clear f1_ f2_ f3_;subst f4_;subst f5_))
       refine hK.out _ _ ⟨(blk_cell BK176.out 0).trans rfl,(blk_cell BK176.out 1).trans rfl,(blk_cell BK176.out 2).trans rfl,(blk_cell BK176.out 3).trans rfl,(blk_cell BK176.out 4).trans rfl,(blk_cell BK176.out 5).trans rfl,(blk_cell BK176.out 6).trans rfl,(blk_cell BK176.out 7).trans rfl,(blk_cell BK176.out 8).trans rfl,(blk_cell BK176.out 9).trans rfl,(blk_cell BK176.out 10).trans rfl⟩ (fun hHeld => ?_)
       clear hK K
       refine norm_ (a' := ?_) ?_ ?_
       rotate_left
       ·show Act.put _ (some 31) _ = _
        simp only [Act.put,List.setIfInBounds_toArray,List.set_cons_zero,List.set_cons_succ,i64_w,i32_w]
        rfl
       refine one_ (i := 6) (N := some 32) #[true,true,true,true,true,true,true,false,false,false,false,false,false,false,false,false,false,false,false,false,false,false,false,false,false,false,false,false,false,false] rfl rfl (one_of HT_.out (by kernel_rfl)) (by decide) (fun K hK => ?_)
       refine goes_ Try.func12 (by kernel_rfl) rfl #[.slice Ao32 t186.length co32,.slice Ao36 y193.length co36] (by rfl) rfl rfl (by (try simp only [List.map_toArray,List.map_cons,List.map_nil]);first | done | rfl | (simp only [List.length_drop,List.length_take];rfl)) ?_
       with_reducible refine (bourneref37_SameInts.calls k _ _ t186 _ _ y193 true _ ?side1 ?side2 ?side3 ?side4 A4.out).mono ?_
       (case side1 => repeat (first | exact (Kd.R_reads' HO188.out).2.2 | (with_reducible refine Kd.C_alloc ?_ _) | (with_reducible refine Kd.C_drewN ?_ _) | (with_reducible refine Kd.C_drew ?_)))
       (case side2 => exact (Kd.R_reads' HO188.out).2.1)
       (case side3 => repeat (first | exact (Kd.R_reads' HO195.out).2.2 | (with_reducible refine Kd.C_alloc ?_ _) | (with_reducible refine Kd.C_drewN ?_ _) | (with_reducible refine Kd.C_drew ?_)))
       (case side4 => exact (Kd.R_reads' HO195.out).2.1)
       rintro e w' ⟨rfl,⟨nd,rfl⟩⟩
       refine ⟨_,rfl,?_⟩
       refine hK.out _ _ ⟨(blk_cell BK176.out 0).trans rfl,(blk_cell BK176.out 1).trans rfl,(blk_cell BK176.out 2).trans rfl,(blk_cell BK176.out 3).trans rfl,(blk_cell BK176.out 4).trans rfl,(blk_cell BK176.out 5).trans rfl,(blk_cell BK176.out 6).trans rfl,(blk_cell BK176.out 7).trans rfl,(blk_cell BK176.out 8).trans rfl,(blk_cell BK176.out 9).trans rfl,(blk_cell BK176.out 10).trans rfl⟩ (fun hHeld => ?_)
       clear hK K
       refine norm_ (a' := ?_) ?_ ?_
       rotate_left
       ·show Act.put _ (some 32) _ = _
        simp only [Act.put,List.setIfInBounds_toArray,List.set_cons_zero,List.set_cons_succ,i64_w,i32_w]
        rfl
       refine pure_ (i := 7) (N := some 33) (v := ?_) (a' := ?_) #[true,true,true,true,true,true,true,true,false,false,false,false,false,false,false,false,false,false,false,false,false,false,false,false,false,false,false,false,false,false] rfl rfl (any_of HT_.out (by kernel_rfl)) (fun _ _ _ h => h) (Or.inl ⟨by rfl,?_⟩) ?_ ?_
       rotate_left
       ·intro w'
        go_simp
        with_reducible rfl
       rotate_left
       ·simp only [Act.put,List.setIfInBounds_toArray,List.set_cons_zero,List.set_cons_succ,i64_w,i32_w]
        rfl
       refine pure_ (i := 8) (N := some 34) (v := ?_) (a' := ?_) #[true,true,true,true,true,true,true,true,true,false,false,false,false,false,false,false,false,false,false,false,false,false,false,false,false,false,false,false,false,false] rfl rfl (any_of HT_.out (by kernel_rfl)) (fun _ _ _ h => h) (Or.inl ⟨by rfl,?_⟩) ?_ ?_
       rotate_left
       ·intro w'
        go_simp
        with_reducible rfl
       rotate_left
       ·simp only [Act.put,List.setIfInBounds_toArray,List.set_cons_zero,List.set_cons_succ,i64_w,i32_w]
        rfl
       refine take_ (i := 9) (N := some 35) (v := ?_) (a' := ?_) #[true,true,true,true,true,true,true,true,true,true,false,false,false,false,false,false,false,false,false,false,false,false,false,false,false,false,false,false,false,false] rfl rfl (take_ofW HT_.out HW_.out (by kernel_rfl)) (fun _ _ _ h => h) (Or.inl ⟨by rfl,?_⟩) hHeld ?_ ?_
       rotate_left
       ·rintro w' ⟨s0,s1,s2,s3,s4,s5,s6,s7,s8,s9,s10⟩
        go_simp
        with_reducible rfl
       rotate_left
       ·simp only [Act.put,List.setIfInBounds_toArray,List.set_cons_zero,List.set_cons_succ,i64_w,i32_w]
        rfl
       refine join_ (σ := Value × Value × Value × Value × Value) 3 #[true,true,true,true,true,true,true,true,true,true,true,true,true,true,true,true,true,true,true,true,true,true,true,true,true,true,true,false,false,false] (fun s_ => [(36,s_.1),(37,s_.2.1),(38,.bool true),(42,s_.2.2.1),(51,s_.2.2.2.1),(52,s_.2.2.2.2),(39,.bool true),(40,.bool true),(41,.agg #[.string (⟨#[]⟩ : ByteArray),.slice none 0 0,.int .i64 0,.slice Ao17 y173.length co17,.slice none 0 0,.slice none 0 0,.slice none 0 0,.slice none 0 0,.slice none 0 0,.slice none 0 0,.int .i64 0]),(43,.int .i64 (t204.length : Int)),(44,.bool true),(45,.bool true),(46,.bool true),(47,.agg #[.string (⟨#[]⟩ : ByteArray),.slice none 0 0,.int .i64 0,.slice Ao17 y173.length co17,.slice none 0 0,.slice none 0 0,.slice none 0 0,.slice none 0 0,.slice none 0 0,.slice none 0 0,.int .i64 0]),(48,.slice Ao25 y177.length co25),(49,.slice Ao30 t183.length co30),(50,.slice A49 y207.length c49)]) (fun s_ w' => (w'.cell? ⟨gb176,0,none⟩ = some (.string (⟨#[]⟩ : ByteArray)) ∧ w'.cell? ⟨gb176,1,none⟩ = some (.slice none 0 0) ∧ w'.cell? ⟨gb176,2,none⟩ = some (.int .i64 0) ∧ w'.cell? ⟨gb176,3,none⟩ = some (.slice Ao17 y173.length co17) ∧ w'.cell? ⟨gb176,4,none⟩ = some (.slice none 0 0) ∧ w'.cell? ⟨gb176,5,none⟩ = some (.slice none 0 0) ∧ w'.cell? ⟨gb176,6,none⟩ = some (.slice none 0 0) ∧ w'.cell? ⟨gb176,7,none⟩ = some (.slice none 0 0) ∧ w'.cell? ⟨gb176,8,none⟩ = some (.slice none 0 0) ∧ w'.cell? ⟨gb176,9,none⟩ = some (.slice none 0 0) ∧ w'.cell? ⟨gb176,10,none⟩ = some (.int .i64 0)) ∧ (Kd.S k58 58 w' w.heap.size (fun k_ => some k_ ≠ (.slice Ao26 y180.length co26 : Value).ownBlock ∧ some k_ ≠ (.slice Ao32 t186.length co32 : Value).ownBlock ∧ some k_ ≠ (.slice Ao36 y193.length co36 : Value).ownBlock ∧ some k_ ≠ (s_.1 : Value).ownBlock ∧ some k_ ≠ (s_.2.1 : Value).ownBlock ∧ some k_ ≠ (s_.2.2.1 : Value).ownBlock ∧ some k_ ≠ (s_.2.2.2.1 : Value).ownBlock ∧ some k_ ≠ (s_.2.2.2.2 : Value).ownBlock) (.slice Ao17 y173.length co17) y173) ∧ (Kd.R k45 45 w' w.heap.size (fun _ => True) (.slice Ao25 y177.length co25) y177) ∧ (Kd.R (Kd.int .i64) 3 w' w.heap.size (fun k_ => some k_ ≠ (.slice Ao32 t186.length co32 : Value).ownBlock ∧ some k_ ≠ (.slice Ao36 y193.length co36 : Value).ownBlock ∧ some k_ ≠ (s_.1 : Value).ownBlock ∧ some k_ ≠ (s_.2.1 : Value).ownBlock ∧ some k_ ≠ (s_.2.2.1 : Value).ownBlock ∧ some k_ ≠ (s_.2.2.2.1 : Value).ownBlock ∧ some k_ ≠ (s_.2.2.2.2 : Value).ownBlock) (.slice Ao26 y180.length co26) y180) ∧ (Kd.R k47 47 w' w.heap.size (fun k_ => some k_ ≠ (.slice Ao31 y189.length co31 : Value).ownBlock) (.slice Ao30 t183.length co30) t183) ∧ (Kd.R (Kd.int .i64) 3 w' w.heap.size (fun k_ => some k_ ≠ (.slice Ao26 y180.length co26 : Value).ownBlock ∧ some k_ ≠ (.slice Ao36 y193.length co36 : Value).ownBlock ∧ some k_ ≠ (s_.1 : Value).ownBlock ∧ some k_ ≠ (s_.2.1 : Value).ownBlock ∧ some k_ ≠ (s_.2.2.1 : Value).ownBlock ∧ some k_ ≠ (s_.2.2.2.1 : Value).ownBlock ∧ some k_ ≠ (s_.2.2.2.2 : Value).ownBlock) (.slice Ao32 t186.length co32) t186) ∧ (Kd.R k47 47 w' w.heap.size (fun k_ => some k_ ≠ (.slice Ao30 t183.length co30 : Value).ownBlock) (.slice Ao31 y189.length co31) y189) ∧ (Kd.R (Kd.int .i64) 3 w' w.heap.size (fun k_ => some k_ ≠ (.slice Ao26 y180.length co26 : Value).ownBlock ∧ some k_ ≠ (.slice Ao32 t186.length co32 : Value).ownBlock ∧ some k_ ≠ (s_.1 : Value).ownBlock ∧ some k_ ≠ (s_.2.1 : Value).ownBlock ∧ some k_ ≠ (s_.2.2.1 : Value).ownBlock ∧ some k_ ≠ (s_.2.2.2.1 : Value).ownBlock ∧ some k_ ≠ (s_.2.2.2.2 : Value).ownBlock) (.slice Ao36 y193.length co36) y193) ∧ (Kd.R (Kd.int .i64) 3 w' w.heap.size (fun k_ => some k_ ≠ (.slice Ao26 y180.length co26 : Value).ownBlock ∧ some k_ ≠ (.slice Ao32 t186.length co32 : Value).ownBlock ∧ some k_ ≠ (.slice Ao36 y193.length co36 : Value).ownBlock ∧ some k_ ≠ (s_.2.1 : Value).ownBlock ∧ some k_ ≠ (s_.2.2.1 : Value).ownBlock ∧ some k_ ≠ (s_.2.2.2.1 : Value).ownBlock ∧ some k_ ≠ (s_.2.2.2.2 : Value).ownBlock) s_.1 t197) ∧ (Kd.R (Kd.int .i64) 3 w' w.heap.size (fun k_ => some k_ ≠ (.slice Ao26 y180.length co26 : Value).ownBlock ∧ some k_ ≠ (.slice Ao32 t186.length co32 : Value).ownBlock ∧ some k_ ≠ (.slice Ao36 y193.length co36 : Value).ownBlock ∧ some k_ ≠ (s_.1 : Value).ownBlock ∧ some k_ ≠ (s_.2.2.1 : Value).ownBlock ∧ some k_ ≠ (s_.2.2.2.1 : Value).ownBlock ∧ some k_ ≠ (s_.2.2.2.2 : Value).ownBlock) s_.2.1 y200) ∧ (Kd.R (Kd.int .i64) 3 w' w.heap.size (fun k_ => some k_ ≠ (.slice Ao26 y180.length co26 : Value).ownBlock ∧ some k_ ≠ (.slice Ao32 t186.length co32 : Value).ownBlock ∧ some k_ ≠ (.slice Ao36 y193.length co36 : Value).ownBlock ∧ some k_ ≠ (s_.1 : Value).ownBlock ∧ some k_ ≠ (s_.2.1 : Value).ownBlock ∧ some k_ ≠ (s_.2.2.2.1 : Value).ownBlock ∧ some k_ ≠ (s_.2.2.2.2 : Value).ownBlock) s_.2.2.1 t204) ∧ (Kd.R (Kd.int .i64) 3 w' w.heap.size (fun k_ => some k_ ≠ (.slice Ao26 y180.length co26 : Value).ownBlock ∧ some k_ ≠ (.slice Ao32 t186.length co32 : Value).ownBlock ∧ some k_ ≠ (.slice Ao36 y193.length co36 : Value).ownBlock ∧ some k_ ≠ (s_.1 : Value).ownBlock ∧ some k_ ≠ (s_.2.1 : Value).ownBlock ∧ some k_ ≠ (s_.2.2.1 : Value).ownBlock ∧ some k_ ≠ (s_.2.2.2.2 : Value).ownBlock) s_.2.2.2.1 t211) ∧ (Kd.R (Kd.int .i64) 3 w' w.heap.size (fun k_ => some k_ ≠ (.slice Ao26 y180.length co26 : Value).ownBlock ∧ some k_ ≠ (.slice Ao32 t186.length co32 : Value).ownBlock ∧ some k_ ≠ (.slice Ao36 y193.length co36 : Value).ownBlock ∧ some k_ ≠ (s_.1 : Value).ownBlock ∧ some k_ ≠ (s_.2.1 : Value).ownBlock ∧ some k_ ≠ (s_.2.2.1 : Value).ownBlock ∧ some k_ ≠ (s_.2.2.2.1 : Value).ownBlock) s_.2.2.2.2 y214) ∧ (w'.heap[gb176]? = some (.cells #[.string (⟨#[]⟩ : ByteArray),.slice none 0 0,.int .i64 0,.slice Ao17 y173.length co17,.slice none 0 0,.slice none 0 0,.slice none 0 0,.slice none 0 0,.slice none 0 0,.slice none 0 0,.int .i64 0] 31 (0,0))) ∧ (Below w.heap.size w w')) ?_ ?_
       rotate_left
       ·intro hCont
        refine two_ (i := 10) (j := 11) (Ni := some 36) (Nj := some 37) #[true,true,true,true,true,true,true,true,true,true,true,false,false,false,false,false,false,false,false,false,false,false,false,false,false,false,false,false,false,false] #[true,true,true,true,true,true,true,true,true,true,false,true,false,false,false,false,false,false,false,false,false,false,false,false,false,false,false,false,false,false] rfl rfl rfl rfl (two_of HT_.out (by kernel_rfl)) (by decide) (by decide) (fun K hK => ?_) (fun K hK => ?_)
        ·skip
         refine goes_ Try.func13 (by kernel_rfl) rfl #[.agg #[.string (⟨#[]⟩ : ByteArray),.slice none 0 0,.int .i64 0,.slice Ao17 y173.length co17,.slice none 0 0,.slice none 0 0,.slice none 0 0,.slice none 0 0,.slice none 0 0,.slice none 0 0,.int .i64 0],.int .i64 0] (by rfl) rfl rfl (by (try simp only [List.map_toArray,List.map_cons,List.map_nil]);first | done | rfl | (simp only [List.length_drop,List.length_take];rfl)) ?_
         refine (allot_Reach.calls k (⟨#[]⟩ : ByteArray) _ _ ([] : List ByteArray) 0 _ _ y173 _ _ ([] : List (S98)) _ _ ([] : List (S100)) _ _ ([] : List (S102)) _ _ ([] : List (S104)) _ _ ([] : List (S106)) _ _ ([] : List Int) 0 0 t197 _ ?side1 ?side2 ?side3 ?side4 ?side5 ?side6 ?side7 ?side8 ?side9 ?side10 ?side11 ?side12 ?side13 ?side14 ?side15 ?side16 A6.out).mono ?_
         (case side1 => exact Kd.C_nil _ _)
         (case side2 => exact Nat.le_refl _)
         (case side3 => repeat (first | exact (Kd.S_reads' HO175.out).2.2 | (with_reducible refine Kd.C_alloc ?_ _) | (with_reducible refine Kd.C_drewN ?_ _) | (with_reducible refine Kd.C_drew ?_)))
         (case side4 => exact (Kd.S_reads' HO175.out).2.1)
         (case side5 => exact Kd.C_nil _ _)
         (case side6 => exact Nat.le_refl _)
         (case side7 => exact Kd.C_nil _ _)
         (case side8 => exact Nat.le_refl _)
         (case side9 => exact Kd.C_nil _ _)
         (case side10 => exact Nat.le_refl _)
         (case side11 => exact Kd.C_nil _ _)
         (case side12 => exact Nat.le_refl _)
         (case side13 => exact Kd.C_nil _ _)
         (case side14 => exact Nat.le_refl _)
         (case side15 => exact Kd.C_nil _ _)
         (case side16 => exact Nat.le_refl _)
         rintro e w37 ⟨v198,rfl,ho0,hb⟩
         refine ⟨_,rfl,?_⟩
         have n0_ := Aside0.mk (Kd.S_elder' (by (with_reducible repeat (first | apply Kd.S_alloc | apply Kd.S_drewN | apply Kd.S_drew));exact HO175.out) (Kd.R_base ho0) hb)
         have n1_ := Aside0.mk (Kd.R_below (by (with_reducible repeat (first | apply Kd.R_alloc | apply Kd.R_drewN | apply Kd.R_drew));exact HO179.out) hb)
         have n2_ := Aside0.mk (Kd.R_elder' (by (with_reducible repeat (first | apply Kd.R_alloc | apply Kd.R_drewN | apply Kd.R_drew));exact HO182.out) (Kd.R_base ho0) hb)
         have n3_ := Aside0.mk (Kd.R_below (by (with_reducible repeat (first | apply Kd.R_alloc | apply Kd.R_drewN | apply Kd.R_drew));exact HO185.out) hb)
         have n4_ := Aside0.mk (Kd.R_elder' (by (with_reducible repeat (first | apply Kd.R_alloc | apply Kd.R_drewN | apply Kd.R_drew));exact HO188.out) (Kd.R_base ho0) hb)
         have n5_ := Aside0.mk (Kd.R_below (by (with_reducible repeat (first | apply Kd.R_alloc | apply Kd.R_drewN | apply Kd.R_drew));exact HO191.out) hb)
         have n6_ := Aside0.mk (Kd.R_elder' (by (with_reducible repeat (first | apply Kd.R_alloc | apply Kd.R_drewN | apply Kd.R_drew));exact HO195.out) (Kd.R_base ho0) hb)
         have n7_ := Aside0.mk (Kd.R_lower (Kd.R_new' (Kd.R_new' (Kd.R_new' ho0 (Kd.R_lt (by (with_reducible repeat (first | apply Kd.R_alloc | apply Kd.R_drewN | apply Kd.R_drew));exact HO182.out))) (Kd.R_lt (by (with_reducible repeat (first | apply Kd.R_alloc | apply Kd.R_drewN | apply Kd.R_drew));exact HO188.out))) (Kd.R_lt (by (with_reducible repeat (first | apply Kd.R_alloc | apply Kd.R_drewN | apply Kd.R_drew));exact HO195.out))) (below_size (by repeat (first | (with_reducible first | exact HB.out | apply below_alloc | apply pw_below_drewN | apply below_drew1 | refine below_set ?_ GE176.out) | exact HB.out))))
         have n8_ := Aside0.mk (blk_below (g := gb176) (o := .cells #[.string (⟨#[]⟩ : ByteArray),.slice none 0 0,.int .i64 0,.slice Ao17 y173.length co17,.slice none 0 0,.slice none 0 0,.slice none 0 0,.slice none 0 0,.slice none 0 0,.slice none 0 0,.int .i64 0] 31 (0,0)) (by (with_reducible repeat (first | refine blk_drewN ?_ _ | refine blk_drew ?_ | refine blk_alloc ?_ _));exact BK176.out) hb)
         have n9_ := Aside0.mk (below_step (by repeat (first | (with_reducible first | exact HB.out | apply below_alloc | apply pw_below_drewN | apply below_drew1 | refine below_set ?_ GE176.out) | exact HB.out)) hb)
         clear HO175
         clear HO179
         clear HO182
         clear HO185
         clear HO188
         clear HO191
         clear HO195
         clear BK176
         clear HB
         have HO175 := n0_
         have HO179 := n1_
         have HO182 := n2_
         have HO185 := n3_
         have HO188 := n4_
         have HO191 := n5_
         have HO195 := n6_
         have HO199 := n7_
         have BK176 := n8_
         have HB := n9_
         clear n0_ n1_ n2_ n3_ n4_ n5_ n6_ n7_ n8_ n9_
         (try clear hb)
         (try clear hb2)
         (try clear hk)
         (try clear hi)
         (try clear ho0)
         refine hK.out _ _ ⟨(blk_cell BK176.out 0).trans rfl,(blk_cell BK176.out 1).trans rfl,(blk_cell BK176.out 2).trans rfl,(blk_cell BK176.out 3).trans rfl,(blk_cell BK176.out 4).trans rfl,(blk_cell BK176.out 5).trans rfl,(blk_cell BK176.out 6).trans rfl,(blk_cell BK176.out 7).trans rfl,(blk_cell BK176.out 8).trans rfl,(blk_cell BK176.out 9).trans rfl,(blk_cell BK176.out 10).trans rfl⟩ (fun hHeld => ?_)
         clear hK K
         refine norm_ (a' := ?_) ?_ ?_
         rotate_left
         ·show Act.put _ (some 36) _ = _
          simp only [Act.put,List.setIfInBounds_toArray,List.set_cons_zero,List.set_cons_succ,i64_w,i32_w]
          rfl
         refine one_ (i := 11) (N := some 37) #[true,true,true,true,true,true,true,true,true,true,true,true,false,false,false,false,false,false,false,false,false,false,false,false,false,false,false,false,false,false] rfl rfl (one_of HT_.out (by kernel_rfl)) (by decide) (fun K hK => ?_)
         refine Kd.R_lit_step (Kd.int .i64) _ 3 ?hg (N := 37) ?hd (xs := ([0,2] : List Int)) (inner := [.int .i64 0,.int .i64 2]) (ok := fun _ => True) (okp := fun _ => True) ?hr ?hp (fun _ hk => hk) trivial (Below.refl _ _) (Nat.le_refl _) (by simp) ?_;(case hd => rfl);(case hg => rfl);(case hr => first | (go_simp;done) | (go_simp;rfl));(case hp => exact (Reps.one (show Kd.M (Kd.int .i64) _ _ _ 0 [.int .i64 0] from rfl) (Reps.one (show Kd.M (Kd.int .i64) _ _ _ 2 [.int .i64 2] from rfl) (Reps.none _ _))))
         intro v201 w38 ho39 hb hg_ hnew_
         clear hg_ hnew_
         (first | rw [← Ny200.out] at ho39 | (simp only [Int.reduceToNat] at ho39;rw [← Ny200.out] at ho39))
         have n0_ := Aside0.mk (Kd.S_elder' (by (with_reducible repeat (first | apply Kd.S_alloc | apply Kd.S_drewN | apply Kd.S_drew));exact HO175.out) (Kd.R_base ho39) hb)
         have n1_ := Aside0.mk (Kd.R_below (by (with_reducible repeat (first | apply Kd.R_alloc | apply Kd.R_drewN | apply Kd.R_drew));exact HO179.out) hb)
         have n2_ := Aside0.mk (Kd.R_elder' (by (with_reducible repeat (first | apply Kd.R_alloc | apply Kd.R_drewN | apply Kd.R_drew));exact HO182.out) (Kd.R_base ho39) hb)
         have n3_ := Aside0.mk (Kd.R_below (by (with_reducible repeat (first | apply Kd.R_alloc | apply Kd.R_drewN | apply Kd.R_drew));exact HO185.out) hb)
         have n4_ := Aside0.mk (Kd.R_elder' (by (with_reducible repeat (first | apply Kd.R_alloc | apply Kd.R_drewN | apply Kd.R_drew));exact HO188.out) (Kd.R_base ho39) hb)
         have n5_ := Aside0.mk (Kd.R_below (by (with_reducible repeat (first | apply Kd.R_alloc | apply Kd.R_drewN | apply Kd.R_drew));exact HO191.out) hb)
         have n6_ := Aside0.mk (Kd.R_elder' (by (with_reducible repeat (first | apply Kd.R_alloc | apply Kd.R_drewN | apply Kd.R_drew));exact HO195.out) (Kd.R_base ho39) hb)
         have n7_ := Aside0.mk (Kd.R_elder' (by (with_reducible repeat (first | apply Kd.R_alloc | apply Kd.R_drewN | apply Kd.R_drew));exact HO199.out) (Kd.R_base ho39) hb)
         have n8_ := Aside0.mk (Kd.R_lower (Kd.R_new' (Kd.R_new' (Kd.R_new' (Kd.R_new' ho39 (Kd.R_lt (by (with_reducible repeat (first | apply Kd.R_alloc | apply Kd.R_drewN | apply Kd.R_drew));exact HO182.out))) (Kd.R_lt (by (with_reducible repeat (first | apply Kd.R_alloc | apply Kd.R_drewN | apply Kd.R_drew));exact HO188.out))) (Kd.R_lt (by (with_reducible repeat (first | apply Kd.R_alloc | apply Kd.R_drewN | apply Kd.R_drew));exact HO195.out))) (Kd.R_lt (by (with_reducible repeat (first | apply Kd.R_alloc | apply Kd.R_drewN | apply Kd.R_drew));exact HO199.out))) (below_size (by repeat (first | (with_reducible first | exact HB.out | apply below_alloc | apply pw_below_drewN | apply below_drew1 | refine below_set ?_ GE176.out) | exact HB.out))))
         have n9_ := Aside0.mk (blk_below (g := gb176) (o := .cells #[.string (⟨#[]⟩ : ByteArray),.slice none 0 0,.int .i64 0,.slice Ao17 y173.length co17,.slice none 0 0,.slice none 0 0,.slice none 0 0,.slice none 0 0,.slice none 0 0,.slice none 0 0,.int .i64 0] 31 (0,0)) (by (with_reducible repeat (first | refine blk_drewN ?_ _ | refine blk_drew ?_ | refine blk_alloc ?_ _));exact BK176.out) hb)
         have n10_ := Aside0.mk (below_step (by repeat (first | (with_reducible first | exact HB.out | apply below_alloc | apply pw_below_drewN | apply below_drew1 | refine below_set ?_ GE176.out) | exact HB.out)) hb)
         clear HO175
         clear HO179
         clear HO182
         clear HO185
         clear HO188
         clear HO191
         clear HO195
         clear HO199
         clear BK176
         clear HB
         have HO175 := n0_
         have HO179 := n1_
         have HO182 := n2_
         have HO185 := n3_
         have HO188 := n4_
         have HO191 := n5_
         have HO195 := n6_
         have HO199 := n7_
         have HO202 := n8_
         have BK176 := n9_
         have HB := n10_
         clear n0_ n1_ n2_ n3_ n4_ n5_ n6_ n7_ n8_ n9_ n10_
         clear hb ho39
         obtain ⟨Ao40,co40,eo40⟩ := Kd.R_slice HO199.out
         (first | subst eo40 | (injection eo40 with f1_ f2_ f3_;have f4_ := f1_.symm;have f5_ := f3_.symm;clear f1_ f2_ f3_;subst f4_;subst f5_))
         obtain ⟨Ao41,co41,eo41⟩ := Kd.R_slice HO202.out
         (first | subst eo41 | (injection eo41 with f1_ f2_ f3_;have f4_ := f1_.symm;have f5_ := f3_.symm;clear f1_ f2_ f3_;subst f4_;subst f5_))
         refine hK.out _ _ ⟨(blk_cell BK176.out 0).trans rfl,(blk_cell BK176.out 1).trans rfl,(blk_cell BK176.out 2).trans rfl,(blk_cell BK176.out 3).trans rfl,(blk_cell BK176.out 4).trans rfl,(blk_cell BK176.out 5).trans rfl,(blk_cell BK176.out 6).trans rfl,(blk_cell BK176.out 7).trans rfl,(blk_cell BK176.out 8).trans rfl,(blk_cell BK176.out 9).trans rfl,(blk_cell BK176.out 10).trans rfl⟩ (fun hHeld => ?_)
         clear hK K
         refine norm_ (a' := ?_) ?_ ?_
         rotate_left
         ·show Act.put _ (some 37) _ = _
          simp only [Act.put,List.setIfInBounds_toArray,List.set_cons_zero,List.set_cons_succ,i64_w,i32_w]
          rfl
         refine one_ (i := 12) (N := some 38) #[true,true,true,true,true,true,true,true,true,true,true,true,true,false,false,false,false,false,false,false,false,false,false,false,false,false,false,false,false,false] rfl rfl (one_of HT_.out (by kernel_rfl)) (by decide) (fun K hK => ?_)
         refine goes_ Try.func12 (by kernel_rfl) rfl #[.slice Ao40 t197.length co40,.slice Ao41 y200.length co41] (by rfl) rfl rfl (by (try simp only [List.map_toArray,List.map_cons,List.map_nil]);first | done | rfl | (simp only [List.length_drop,List.length_take];rfl)) ?_
         with_reducible refine (bourneref37_SameInts.calls k _ _ t197 _ _ y200 true _ ?side1 ?side2 ?side3 ?side4 A7.out).mono ?_
         (case side1 => repeat (first | exact (Kd.R_reads' HO199.out).2.2 | (with_reducible refine Kd.C_alloc ?_ _) | (with_reducible refine Kd.C_drewN ?_ _) | (with_reducible refine Kd.C_drew ?_)))
         (case side2 => exact (Kd.R_reads' HO199.out).2.1)
         (case side3 => repeat (first | exact (Kd.R_reads' HO202.out).2.2 | (with_reducible refine Kd.C_alloc ?_ _) | (with_reducible refine Kd.C_drewN ?_ _) | (with_reducible refine Kd.C_drew ?_)))
         (case side4 => exact (Kd.R_reads' HO202.out).2.1)
         rintro e w' ⟨rfl,⟨nd,rfl⟩⟩
         refine ⟨_,rfl,?_⟩
         refine hK.out _ _ ⟨(blk_cell BK176.out 0).trans rfl,(blk_cell BK176.out 1).trans rfl,(blk_cell BK176.out 2).trans rfl,(blk_cell BK176.out 3).trans rfl,(blk_cell BK176.out 4).trans rfl,(blk_cell BK176.out 5).trans rfl,(blk_cell BK176.out 6).trans rfl,(blk_cell BK176.out 7).trans rfl,(blk_cell BK176.out 8).trans rfl,(blk_cell BK176.out 9).trans rfl,(blk_cell BK176.out 10).trans rfl⟩ (fun hHeld => ?_)
         clear hK K
         refine norm_ (a' := ?_) ?_ ?_
         rotate_left
         ·show Act.put _ (some 38) _ = _
          simp only [Act.put,List.setIfInBounds_toArray,List.set_cons_zero,List.set_cons_succ,i64_w,i32_w]
          rfl
         refine pure_ (i := 13) (N := some 39) (v := ?_) (a' := ?_) #[true,true,true,true,true,true,true,true,true,true,true,true,true,true,false,false,false,false,false,false,false,false,false,false,false,false,false,false,false,false] rfl rfl (any_of HT_.out (by kernel_rfl)) (fun _ _ _ h => h) (Or.inl ⟨by rfl,?_⟩) ?_ ?_
         rotate_left
         ·intro w'
          go_simp
          with_reducible rfl
         rotate_left
         ·simp only [Act.put,List.setIfInBounds_toArray,List.set_cons_zero,List.set_cons_succ,i64_w,i32_w]
          rfl
         refine pure_ (i := 14) (N := some 40) (v := ?_) (a' := ?_) #[true,true,true,true,true,true,true,true,true,true,true,true,true,true,true,false,false,false,false,false,false,false,false,false,false,false,false,false,false,false] rfl rfl (any_of HT_.out (by kernel_rfl)) (fun _ _ _ h => h) (Or.inl ⟨by rfl,?_⟩) ?_ ?_
         rotate_left
         ·intro w'
          go_simp
          with_reducible rfl
         rotate_left
         ·simp only [Act.put,List.setIfInBounds_toArray,List.set_cons_zero,List.set_cons_succ,i64_w,i32_w]
          rfl
         refine take_ (i := 15) (N := some 41) (v := ?_) (a' := ?_) #[true,true,true,true,true,true,true,true,true,true,true,true,true,true,true,true,false,false,false,false,false,false,false,false,false,false,false,false,false,false] rfl rfl (take_ofW HT_.out HW_.out (by kernel_rfl)) (fun _ _ _ h => h) (Or.inl ⟨by rfl,?_⟩) hHeld ?_ ?_
         rotate_left
         ·rintro w' ⟨s0,s1,s2,s3,s4,s5,s6,s7,s8,s9,s10⟩
          go_simp
          with_reducible rfl
         rotate_left
         ·simp only [Act.put,List.setIfInBounds_toArray,List.set_cons_zero,List.set_cons_succ,i64_w,i32_w]
          rfl
         refine one_ (i := 16) (N := some 42) #[true,true,true,true,true,true,true,true,true,true,true,true,true,true,true,true,true,false,false,false,false,false,false,false,false,false,false,false,false,false] rfl rfl (one_of HT_.out (by kernel_rfl)) (by decide) (fun K hK => ?_)
         refine goes_ Try.func13 (by kernel_rfl) rfl #[.agg #[.string (⟨#[]⟩ : ByteArray),.slice none 0 0,.int .i64 0,.slice Ao17 y173.length co17,.slice none 0 0,.slice none 0 0,.slice none 0 0,.slice none 0 0,.slice none 0 0,.slice none 0 0,.int .i64 0],.int .i64 3] (by rfl) rfl rfl (by (try simp only [List.map_toArray,List.map_cons,List.map_nil]);first | done | rfl | (simp only [List.length_drop,List.length_take];rfl)) ?_
         refine (allot_Reach.calls k (⟨#[]⟩ : ByteArray) _ _ ([] : List ByteArray) 0 _ _ y173 _ _ ([] : List (S98)) _ _ ([] : List (S100)) _ _ ([] : List (S102)) _ _ ([] : List (S104)) _ _ ([] : List (S106)) _ _ ([] : List Int) 0 3 t204 _ ?side1 ?side2 ?side3 ?side4 ?side5 ?side6 ?side7 ?side8 ?side9 ?side10 ?side11 ?side12 ?side13 ?side14 ?side15 ?side16 A9.out).mono ?_
         (case side1 => exact Kd.C_nil _ _)
         (case side2 => exact Nat.le_refl _)
         (case side3 => repeat (first | exact (Kd.S_reads' HO175.out).2.2 | (with_reducible refine Kd.C_alloc ?_ _) | (with_reducible refine Kd.C_drewN ?_ _) | (with_reducible refine Kd.C_drew ?_)))
         (case side4 => exact (Kd.S_reads' HO175.out).2.1)
         (case side5 => exact Kd.C_nil _ _)
         (case side6 => exact Nat.le_refl _)
         (case side7 => exact Kd.C_nil _ _)
         (case side8 => exact Nat.le_refl _)
         (case side9 => exact Kd.C_nil _ _)
         (case side10 => exact Nat.le_refl _)
         (case side11 => exact Kd.C_nil _ _)
         (case side12 => exact Nat.le_refl _)
         (case side13 => exact Kd.C_nil _ _)
         (case side14 => exact Nat.le_refl _)
         (case side15 => exact Kd.C_nil _ _)
         (case side16 => exact Nat.le_refl _)
         rintro e w42 ⟨v205,rfl,ho0,hb⟩
         refine ⟨_,rfl,?_⟩
         have n0_ := Aside0.mk (Kd.S_elder' (by (with_reducible repeat (first | apply Kd.S_alloc | apply Kd.S_drewN | apply Kd.S_drew));exact HO175.out) (Kd.R_base ho0) hb)
         have n1_ := Aside0.mk (Kd.R_below (by (with_reducible repeat (first | apply Kd.R_alloc | apply Kd.R_drewN | apply Kd.R_drew));exact HO179.out) hb)
         have n2_ := Aside0.mk (Kd.R_elder' (by (with_reducible repeat (first | apply Kd.R_alloc | apply Kd.R_drewN | apply Kd.R_drew));exact HO182.out) (Kd.R_base ho0) hb)
         have n3_ := Aside0.mk (Kd.R_below (by (with_reducible repeat (first | apply Kd.R_alloc | apply Kd.R_drewN | apply Kd.R_drew));exact HO185.out) hb)
         have n4_ := Aside0.mk (Kd.R_elder' (by (with_reducible repeat (first | apply Kd.R_alloc | apply Kd.R_drewN | apply Kd.R_drew));exact HO188.out) (Kd.R_base ho0) hb)
         have n5_ := Aside0.mk (Kd.R_below (by (with_reducible repeat (first | apply Kd.R_alloc | apply Kd.R_drewN | apply Kd.R_drew));exact HO191.out) hb)
         have n6_ := Aside0.mk (Kd.R_elder' (by (with_reducible repeat (first | apply Kd.R_alloc | apply Kd.R_drewN | apply Kd.R_drew));exact HO195.out) (Kd.R_base ho0) hb)
         have n7_ := Aside0.mk (Kd.R_elder' (by (with_reducible repeat (first | apply Kd.R_alloc | apply Kd.R_drewN | apply Kd.R_drew));exact HO199.out) (Kd.R_base ho0) hb)
         have n8_ := Aside0.mk (Kd.R_elder' (by (with_reducible repeat (first | apply Kd.R_alloc | apply Kd.R_drewN | apply Kd.R_drew));exact HO202.out) (Kd.R_base ho0) hb)
         have n9_ := Aside0.mk (Kd.R_lower (Kd.R_new' (Kd.R_new' (Kd.R_new' (Kd.R_new' (Kd.R_new' ho0 (Kd.R_lt (by (with_reducible repeat (first | apply Kd.R_alloc | apply Kd.R_drewN | apply Kd.R_drew));exact HO182.out))) (Kd.R_lt (by (with_reducible repeat (first | apply Kd.R_alloc | apply Kd.R_drewN | apply Kd.R_drew));exact HO188.out))) (Kd.R_lt (by (with_reducible repeat (first | apply Kd.R_alloc | apply Kd.R_drewN | apply Kd.R_drew));exact HO195.out))) (Kd.R_lt (by (with_reducible repeat (first | apply Kd.R_alloc | apply Kd.R_drewN | apply Kd.R_drew));exact HO199.out))) (Kd.R_lt (by (with_reducible repeat (first | apply Kd.R_alloc | apply Kd.R_drewN | apply Kd.R_drew));exact HO202.out))) (below_size (by repeat (first | (with_reducible first | exact HB.out | apply below_alloc | apply pw_below_drewN | apply below_drew1 | refine below_set ?_ GE176.out) | exact HB.out))))
         have n10_ := Aside0.mk (blk_below (g := gb176) (o := .cells #[.string (⟨#[]⟩ : ByteArray),.slice none 0 0,.int .i64 0,.slice Ao17 y173.length co17,.slice none 0 0,.slice none 0 0,.slice none 0 0,.slice none 0 0,.slice none 0 0,.slice none 0 0,.int .i64 0] 31 (0,0)) (by (with_reducible repeat (first | refine blk_drewN ?_ _ | refine blk_drew ?_ | refine blk_alloc ?_ _));exact BK176.out) hb)
         have n11_ := Aside0.mk (below_step (by repeat (first | (with_reducible first | exact HB.out | apply below_alloc | apply pw_below_drewN | apply below_drew1 | refine below_set ?_ GE176.out) | exact HB.out)) hb)
         clear HO175
         clear HO179
         clear HO182
         clear HO185
         clear HO188
         clear HO191
         clear HO195
         clear HO199
         clear HO202
         clear BK176
         clear HB
         have HO175 := n0_
         have HO179 := n1_
         have HO182 := n2_
         have HO185 := n3_
         have HO188 := n4_
         have HO191 := n5_
         have HO195 := n6_
         have HO199 := n7_
         have HO202 := n8_
         have HO206 := n9_
         have BK176 := n10_
         have HB := n11_
         clear n0_ n1_ n2_ n3_ n4_ n5_ n6_ n7_ n8_ n9_ n10_ n11_
         (try clear hb)
         (try clear hb2)
         (try clear hk)
         (try clear hi)
         (try clear ho0)
         obtain ⟨Ao43,co43,eo43⟩ := Kd.R_slice HO206.out
         (first | subst eo43 | (injection eo43 with f1_ f2_ f3_;have f4_ := f1_.symm;have f5_ := f3_.symm;clear f1_ f2_ f3_;subst f4_;subst f5_))
         refine hK.out _ _ ⟨(blk_cell BK176.out 0).trans rfl,(blk_cell BK176.out 1).trans rfl,(blk_cell BK176.out 2).trans rfl,(blk_cell BK176.out 3).trans rfl,(blk_cell BK176.out 4).trans rfl,(blk_cell BK176.out 5).trans rfl,(blk_cell BK176.out 6).trans rfl,(blk_cell BK176.out 7).trans rfl,(blk_cell BK176.out 8).trans rfl,(blk_cell BK176.out 9).trans rfl,(blk_cell BK176.out 10).trans rfl⟩ (fun hHeld => ?_)
         clear hK K
         refine norm_ (a' := ?_) ?_ ?_
         rotate_left
         ·show Act.put _ (some 42) _ = _
          simp only [Act.put,List.setIfInBounds_toArray,List.set_cons_zero,List.set_cons_succ,i64_w,i32_w]
          rfl
         refine pure_ (i := 17) (N := some 43) (v := ?_) (a' := ?_) #[true,true,true,true,true,true,true,true,true,true,true,true,true,true,true,true,true,true,false,false,false,false,false,false,false,false,false,false,false,false] rfl rfl (any_of HT_.out (by kernel_rfl)) (fun _ _ _ h => h) (Or.inl ⟨by rfl,?_⟩) ?_ ?_
         rotate_left
         ·intro w'
          go_simp
          with_reducible rfl
         rotate_left
         ·simp only [Act.put,List.setIfInBounds_toArray,List.set_cons_zero,List.set_cons_succ,i64_w,i32_w]
          rfl
         refine pure_ (i := 18) (N := some 44) (v := ?_) (a' := ?_) #[true,true,true,true,true,true,true,true,true,true,true,true,true,true,true,true,true,true,true,false,false,false,false,false,false,false,false,false,false,false] rfl rfl (any_of HT_.out (by kernel_rfl)) (fun _ _ _ h => h) (Or.inl ⟨by rfl,?_⟩) ?_ ?_
         rotate_left
         ·intro w'
          go_simp
          with_reducible rfl
         rotate_left
         ·simp only [Act.put,List.setIfInBounds_toArray,List.set_cons_zero,List.set_cons_succ,i64_w,i32_w]
          rfl
         refine pure_ (i := 19) (N := some 45) (v := ?_) (a' := ?_) #[true,true,true,true,true,true,true,true,true,true,true,true,true,true,true,true,true,true,true,true,false,false,false,false,false,false,false,false,false,false] rfl rfl (any_of HT_.out (by kernel_rfl)) (fun _ _ _ h => h) (Or.inl ⟨by rfl,?_⟩) ?_ ?_
         rotate_left
         ·intro w'
          go_simp
          with_reducible rfl
         rotate_left
         ·simp only [Act.put,List.setIfInBounds_toArray,List.set_cons_zero,List.set_cons_succ,i64_w,i32_w]
          rfl
         refine pure_ (i := 20) (N := some 46) (v := ?_) (a' := ?_) #[true,true,true,true,true,true,true,true,true,true,true,true,true,true,true,true,true,true,true,true,true,false,false,false,false,false,false,false,false,false] rfl rfl (any_of HT_.out (by kernel_rfl)) (fun _ _ _ h => h) (Or.inl ⟨by rfl,?_⟩) ?_ ?_
         rotate_left
         ·intro w'
          go_simp
          with_reducible rfl
         rotate_left
         ·simp only [Act.put,List.setIfInBounds_toArray,List.set_cons_zero,List.set_cons_succ,i64_w,i32_w]
          rfl
         refine take_ (i := 21) (N := some 47) (v := ?_) (a' := ?_) #[true,true,true,true,true,true,true,true,true,true,true,true,true,true,true,true,true,true,true,true,true,true,false,false,false,false,false,false,false,false] rfl rfl (take_ofW HT_.out HW_.out (by kernel_rfl)) (fun _ _ _ h => h) (Or.inl ⟨by rfl,?_⟩) hHeld ?_ ?_
         rotate_left
         ·rintro w' ⟨s0,s1,s2,s3,s4,s5,s6,s7,s8,s9,s10⟩
          go_simp
          with_reducible rfl
         rotate_left
         ·simp only [Act.put,List.setIfInBounds_toArray,List.set_cons_zero,List.set_cons_succ,i64_w,i32_w]
          rfl
         refine pure_ (i := 22) (N := some 48) (v := ?_) (a' := ?_) #[true,true,true,true,true,true,true,true,true,true,true,true,true,true,true,true,true,true,true,true,true,true,true,false,false,false,false,false,false,false] rfl rfl (any_of HT_.out (by kernel_rfl)) (fun _ _ _ h => h) (Or.inl ⟨by rfl,?_⟩) ?_ ?_
         rotate_left
         ·intro w'
          go_simp
          with_reducible rfl
         rotate_left
         ·simp only [Act.put,List.setIfInBounds_toArray,List.set_cons_zero,List.set_cons_succ,i64_w,i32_w]
          rfl
         refine pure_ (i := 23) (N := some 49) (v := ?_) (a' := ?_) #[true,true,true,true,true,true,true,true,true,true,true,true,true,true,true,true,true,true,true,true,true,true,true,true,false,false,false,false,false,false] rfl rfl (any_of HT_.out (by kernel_rfl)) (fun _ _ _ h => h) (Or.inl ⟨by rfl,?_⟩) ?_ ?_
         rotate_left
         ·intro w'
          go_simp
          with_reducible rfl
         rotate_left
         ·simp only [Act.put,List.setIfInBounds_toArray,List.set_cons_zero,List.set_cons_succ,i64_w,i32_w]
          rfl
         refine pure_ (i := 24) (N := some 50) (v := .slice A49 y207.length c49) (a' := ?_) #[true,true,true,true,true,true,true,true,true,true,true,true,true,true,true,true,true,true,true,true,true,true,true,true,true,false,false,false,false,false] rfl rfl (any_of HT_.out (by kernel_rfl)) (fun _ _ _ h => h) (Or.inl ⟨by rfl,?_⟩) ?_ ?_
         ·intro w'
          refine Eq.trans (b := ?_) (by go_simp;with_reducible rfl) ?_
          rw [hA49,hc49,hy49]
          rfl
         rotate_left
         ·simp only [Act.put,List.setIfInBounds_toArray,List.set_cons_zero,List.set_cons_succ,i64_w,i32_w]
          rfl
         refine two_ (i := 25) (j := 26) (Ni := some 51) (Nj := some 52) #[true,true,true,true,true,true,true,true,true,true,true,true,true,true,true,true,true,true,true,true,true,true,true,true,true,true,false,false,false,false] #[true,true,true,true,true,true,true,true,true,true,true,true,true,true,true,true,true,true,true,true,true,true,true,true,true,false,true,false,false,false] rfl rfl rfl rfl (two_of HT_.out (by kernel_rfl)) (by decide) (by decide) (fun K hK => ?_) (fun K hK => ?_)
         ·skip
          refine goes_ Try.func15 (by kernel_rfl) rfl #[.agg #[.string (⟨#[]⟩ : ByteArray),.slice none 0 0,.int .i64 0,.slice Ao17 y173.length co17,.slice none 0 0,.slice none 0 0,.slice none 0 0,.slice none 0 0,.slice none 0 0,.slice none 0 0,.int .i64 0],.slice Ao25 y177.length co25,(.slice A49 y207.length c49)] (by rfl) rfl rfl (by (try simp only [List.map_toArray,List.map_cons,List.map_nil]);first | done | rfl | (simp only [List.length_drop,List.length_take];rfl)) ?_
          refine (allot_Back.calls k (⟨#[]⟩ : ByteArray) _ _ ([] : List ByteArray) 0 _ _ y173 _ _ ([] : List (S98)) _ _ ([] : List (S100)) _ _ ([] : List (S102)) _ _ ([] : List (S104)) _ _ ([] : List (S106)) _ _ ([] : List Int) 0 _ _ y177 _ _ y207 t211 _ ?side1 ?side2 ?side3 ?side4 ?side5 ?side6 ?side7 ?side8 ?side9 ?side10 ?side11 ?side12 ?side13 ?side14 ?side15 ?side16 ?side17 ?side18 ?side19 ?side20 A13.out).mono ?_
          (case side1 => exact Kd.C_nil _ _)
          (case side2 => exact Nat.le_refl _)
          (case side3 => repeat (first | exact (Kd.S_reads' HO175.out).2.2 | (with_reducible refine Kd.C_alloc ?_ _) | (with_reducible refine Kd.C_drewN ?_ _) | (with_reducible refine Kd.C_drew ?_)))
          (case side4 => exact (Kd.S_reads' HO175.out).2.1)
          (case side5 => exact Kd.C_nil _ _)
          (case side6 => exact Nat.le_refl _)
          (case side7 => exact Kd.C_nil _ _)
          (case side8 => exact Nat.le_refl _)
          (case side9 => exact Kd.C_nil _ _)
          (case side10 => exact Nat.le_refl _)
          (case side11 => exact Kd.C_nil _ _)
          (case side12 => exact Nat.le_refl _)
          (case side13 => exact Kd.C_nil _ _)
          (case side14 => exact Nat.le_refl _)
          (case side15 => exact Kd.C_nil _ _)
          (case side16 => exact Nat.le_refl _)
          (case side17 => repeat (first | exact (Kd.R_reads' HO179.out).2.2 | (with_reducible refine Kd.C_alloc ?_ _) | (with_reducible refine Kd.C_drewN ?_ _) | (with_reducible refine Kd.C_drew ?_)))
          (case side18 => exact (Kd.R_reads' HO179.out).2.1)
          (case side19 => exact (by have hz_ := Kd.C_mid (lo := (1 : Int).toNat) (hi := (2 : Int).toNat) (c := co30) (Kd.R_reads' HO185.out).2.2 (by omega) (by omega) (Kd.R_reads' HO185.out).2.1;rw [show ((_ : List S47).take (2 : Int).toNat).drop (1 : Int).toNat = y207 from Ny207.out.symm] at hz_;rw [hA49];exact hz_))
          (case side20 => exact HC210.out)
          rintro e w44 ⟨v212,rfl,ho0,hb⟩
          refine ⟨_,rfl,?_⟩
          have n0_ := Aside0.mk (Kd.S_elder' (by (with_reducible repeat (first | apply Kd.S_alloc | apply Kd.S_drewN | apply Kd.S_drew));exact HO175.out) (Kd.R_base ho0) hb)
          have n1_ := Aside0.mk (Kd.R_below (by (with_reducible repeat (first | apply Kd.R_alloc | apply Kd.R_drewN | apply Kd.R_drew));exact HO179.out) hb)
          have n2_ := Aside0.mk (Kd.R_elder' (by (with_reducible repeat (first | apply Kd.R_alloc | apply Kd.R_drewN | apply Kd.R_drew));exact HO182.out) (Kd.R_base ho0) hb)
          have n3_ := Aside0.mk (Kd.R_below (by (with_reducible repeat (first | apply Kd.R_alloc | apply Kd.R_drewN | apply Kd.R_drew));exact HO185.out) hb)
          have n4_ := Aside0.mk (Kd.R_elder' (by (with_reducible repeat (first | apply Kd.R_alloc | apply Kd.R_drewN | apply Kd.R_drew));exact HO188.out) (Kd.R_base ho0) hb)
          have n5_ := Aside0.mk (Kd.R_below (by (with_reducible repeat (first | apply Kd.R_alloc | apply Kd.R_drewN | apply Kd.R_drew));exact HO191.out) hb)
          have n6_ := Aside0.mk (Kd.R_elder' (by (with_reducible repeat (first | apply Kd.R_alloc | apply Kd.R_drewN | apply Kd.R_drew));exact HO195.out) (Kd.R_base ho0) hb)
          have n7_ := Aside0.mk (Kd.R_elder' (by (with_reducible repeat (first | apply Kd.R_alloc | apply Kd.R_drewN | apply Kd.R_drew));exact HO199.out) (Kd.R_base ho0) hb)
          have n8_ := Aside0.mk (Kd.R_elder' (by (with_reducible repeat (first | apply Kd.R_alloc | apply Kd.R_drewN | apply Kd.R_drew));exact HO202.out) (Kd.R_base ho0) hb)
          have n9_ := Aside0.mk (Kd.R_elder' (by (with_reducible repeat (first | apply Kd.R_alloc | apply Kd.R_drewN | apply Kd.R_drew));exact HO206.out) (Kd.R_base ho0) hb)
          have n10_ := Aside0.mk (Kd.R_lower (Kd.R_new' (Kd.R_new' (Kd.R_new' (Kd.R_new' (Kd.R_new' (Kd.R_new' ho0 (Kd.R_lt (by (with_reducible repeat (first | apply Kd.R_alloc | apply Kd.R_drewN | apply Kd.R_drew));exact HO182.out))) (Kd.R_lt (by (with_reducible repeat (first | apply Kd.R_alloc | apply Kd.R_drewN | apply Kd.R_drew));exact HO188.out))) (Kd.R_lt (by (with_reducible repeat (first | apply Kd.R_alloc | apply Kd.R_drewN | apply Kd.R_drew));exact HO195.out))) (Kd.R_lt (by (with_reducible repeat (first | apply Kd.R_alloc | apply Kd.R_drewN | apply Kd.R_drew));exact HO199.out))) (Kd.R_lt (by (with_reducible repeat (first | apply Kd.R_alloc | apply Kd.R_drewN | apply Kd.R_drew));exact HO202.out))) (Kd.R_lt (by (with_reducible repeat (first | apply Kd.R_alloc | apply Kd.R_drewN | apply Kd.R_drew));exact HO206.out))) (below_size (by repeat (first | (with_reducible first | exact HB.out | apply below_alloc | apply pw_below_drewN | apply below_drew1 | refine below_set ?_ GE176.out) | exact HB.out))))
          have n11_ := Aside0.mk (blk_below (g := gb176) (o := .cells #[.string (⟨#[]⟩ : ByteArray),.slice none 0 0,.int .i64 0,.slice Ao17 y173.length co17,.slice none 0 0,.slice none 0 0,.slice none 0 0,.slice none 0 0,.slice none 0 0,.slice none 0 0,.int .i64 0] 31 (0,0)) (by (with_reducible repeat (first | refine blk_drewN ?_ _ | refine blk_drew ?_ | refine blk_alloc ?_ _));exact BK176.out) hb)
          have n12_ := Aside0.mk (below_step (by repeat (first | (with_reducible first | exact HB.out | apply below_alloc | apply pw_below_drewN | apply below_drew1 | refine below_set ?_ GE176.out) | exact HB.out)) hb)
          clear HO175
          clear HO179
          clear HO182
          clear HO185
          clear HO188
          clear HO191
          clear HO195
          clear HO199
          clear HO202
          clear HO206
          clear BK176
          clear HB
          have HO175 := n0_
          have HO179 := n1_
          have HO182 := n2_
          have HO185 := n3_
          have HO188 := n4_
          have HO191 := n5_
          have HO195 := n6_
          have HO199 := n7_
          have HO202 := n8_
          have HO206 := n9_
          have HO213 := n10_
          have BK176 := n11_
          have HB := n12_
          clear n0_ n1_ n2_ n3_ n4_ n5_ n6_ n7_ n8_ n9_ n10_ n11_ n12_
          (try clear hb)
          (try clear hb2)
          (try clear hk)
          (try clear hi)
          (try clear ho0)
          refine hK.out _ _ ⟨(blk_cell BK176.out 0).trans rfl,(blk_cell BK176.out 1).trans rfl,(blk_cell BK176.out 2).trans rfl,(blk_cell BK176.out 3).trans rfl,(blk_cell BK176.out 4).trans rfl,(blk_cell BK176.out 5).trans rfl,(blk_cell BK176.out 6).trans rfl,(blk_cell BK176.out 7).trans rfl,(blk_cell BK176.out 8).trans rfl,(blk_cell BK176.out 9).trans rfl,(blk_cell BK176.out 10).trans rfl⟩ (fun hHeld => ?_)
          clear hK K
          refine norm_ (a' := ?_) ?_ ?_
          rotate_left
          ·show Act.put _ (some 51) _ = _
           simp only [Act.put,List.setIfInBounds_toArray,List.set_cons_zero,List.set_cons_succ,i64_w,i32_w]
           rfl
          refine one_ (i := 26) (N := some 52) #[true,true,true,true,true,true,true,true,true,true,true,true,true,true,true,true,true,true,true,true,true,true,true,true,true,true,true,false,false,false] rfl rfl (one_of HT_.out (by kernel_rfl)) (by decide) (fun K hK => ?_)
          refine Kd.R_lit_step (Kd.int .i64) _ 3 ?hg (N := 52) ?hd (xs := ([0,2,0] : List Int)) (inner := [.int .i64 0,.int .i64 2,.int .i64 0]) (ok := fun _ => True) (okp := fun _ => True) ?hr ?hp (fun _ hk => hk) trivial (Below.refl _ _) (Nat.le_refl _) (by simp) ?_;(case hd => rfl);(case hg => rfl);(case hr => first | (go_simp;done) | (go_simp;rfl));(case hp => exact (Reps.one (show Kd.M (Kd.int .i64) _ _ _ 0 [.int .i64 0] from rfl) (Reps.one (show Kd.M (Kd.int .i64) _ _ _ 2 [.int .i64 2] from rfl) (Reps.one (show Kd.M (Kd.int .i64) _ _ _ 0 [.int .i64 0] from rfl) (Reps.none _ _)))))
          intro v215 w45 ho46 hb hg_ hnew_
          clear hg_ hnew_
          (first | rw [← Ny214.out] at ho46 | (simp only [Int.reduceToNat] at ho46;rw [← Ny214.out] at ho46))
          have n0_ := Aside0.mk (Kd.S_elder' (by (with_reducible repeat (first | apply Kd.S_alloc | apply Kd.S_drewN | apply Kd.S_drew));exact HO175.out) (Kd.R_base ho46) hb)
          have n1_ := Aside0.mk (Kd.R_below (by (with_reducible repeat (first | apply Kd.R_alloc | apply Kd.R_drewN | apply Kd.R_drew));exact HO179.out) hb)
          have n2_ := Aside0.mk (Kd.R_elder' (by (with_reducible repeat (first | apply Kd.R_alloc | apply Kd.R_drewN | apply Kd.R_drew));exact HO182.out) (Kd.R_base ho46) hb)
          have n3_ := Aside0.mk (Kd.R_below (by (with_reducible repeat (first | apply Kd.R_alloc | apply Kd.R_drewN | apply Kd.R_drew));exact HO185.out) hb)
          have n4_ := Aside0.mk (Kd.R_elder' (by (with_reducible repeat (first | apply Kd.R_alloc | apply Kd.R_drewN | apply Kd.R_drew));exact HO188.out) (Kd.R_base ho46) hb)
          have n5_ := Aside0.mk (Kd.R_below (by (with_reducible repeat (first | apply Kd.R_alloc | apply Kd.R_drewN | apply Kd.R_drew));exact HO191.out) hb)
          have n6_ := Aside0.mk (Kd.R_elder' (by (with_reducible repeat (first | apply Kd.R_alloc | apply Kd.R_drewN | apply Kd.R_drew));exact HO195.out) (Kd.R_base ho46) hb)
          have n7_ := Aside0.mk (Kd.R_elder' (by (with_reducible repeat (first | apply Kd.R_alloc | apply Kd.R_drewN | apply Kd.R_drew));exact HO199.out) (Kd.R_base ho46) hb)
          have n8_ := Aside0.mk (Kd.R_elder' (by (with_reducible repeat (first | apply Kd.R_alloc | apply Kd.R_drewN | apply Kd.R_drew));exact HO202.out) (Kd.R_base ho46) hb)
          have n9_ := Aside0.mk (Kd.R_elder' (by (with_reducible repeat (first | apply Kd.R_alloc | apply Kd.R_drewN | apply Kd.R_drew));exact HO206.out) (Kd.R_base ho46) hb)
          have n10_ := Aside0.mk (Kd.R_elder' (by (with_reducible repeat (first | apply Kd.R_alloc | apply Kd.R_drewN | apply Kd.R_drew));exact HO213.out) (Kd.R_base ho46) hb)
          have n11_ := Aside0.mk (Kd.R_lower (Kd.R_new' (Kd.R_new' (Kd.R_new' (Kd.R_new' (Kd.R_new' (Kd.R_new' (Kd.R_new' ho46 (Kd.R_lt (by (with_reducible repeat (first | apply Kd.R_alloc | apply Kd.R_drewN | apply Kd.R_drew));exact HO182.out))) (Kd.R_lt (by (with_reducible repeat (first | apply Kd.R_alloc | apply Kd.R_drewN | apply Kd.R_drew));exact HO188.out))) (Kd.R_lt (by (with_reducible repeat (first | apply Kd.R_alloc | apply Kd.R_drewN | apply Kd.R_drew));exact HO195.out))) (Kd.R_lt (by (with_reducible repeat (first | apply Kd.R_alloc | apply Kd.R_drewN | apply Kd.R_drew));exact HO199.out))) (Kd.R_lt (by (with_reducible repeat (first | apply Kd.R_alloc | apply Kd.R_drewN | apply Kd.R_drew));exact HO202.out))) (Kd.R_lt (by (with_reducible repeat (first | apply Kd.R_alloc | apply Kd.R_drewN | apply Kd.R_drew));exact HO206.out))) (Kd.R_lt (by (with_reducible repeat (first | apply Kd.R_alloc | apply Kd.R_drewN | apply Kd.R_drew));exact HO213.out))) (below_size (by repeat (first | (with_reducible first | exact HB.out | apply below_alloc | apply pw_below_drewN | apply below_drew1 | refine below_set ?_ GE176.out) | exact HB.out))))
          have n12_ := Aside0.mk (blk_below (g := gb176) (o := .cells #[.string (⟨#[]⟩ : ByteArray),.slice none 0 0,.int .i64 0,.slice Ao17 y173.length co17,.slice none 0 0,.slice none 0 0,.slice none 0 0,.slice none 0 0,.slice none 0 0,.slice none 0 0,.int .i64 0] 31 (0,0)) (by (with_reducible repeat (first | refine blk_drewN ?_ _ | refine blk_drew ?_ | refine blk_alloc ?_ _));exact BK176.out) hb)
          have n13_ := Aside0.mk (below_step (by repeat (first | (with_reducible first | exact HB.out | apply below_alloc | apply pw_below_drewN | apply below_drew1 | refine below_set ?_ GE176.out) | exact HB.out)) hb)
          clear HO175
          clear HO179
          clear HO182
          clear HO185
          clear HO188
          clear HO191
          clear HO195
          clear HO199
          clear HO202
          clear HO206
          clear HO213
          clear BK176
          clear HB
          have HO175 := n0_
          have HO179 := n1_
          have HO182 := n2_
          have HO185 := n3_
          have HO188 := n4_
          have HO191 := n5_
          have HO195 := n6_
          have HO199 := n7_
          have HO202 := n8_
          have HO206 := n9_
          have HO213 := n10_
          have HO216 := n11_
          have BK176 := n12_
          have HB := n13_
          clear n0_ n1_ n2_ n3_ n4_ n5_ n6_ n7_ n8_ n9_ n10_ n11_ n12_ n13_
          clear hb ho46
          refine hK.out _ _ ⟨(blk_cell BK176.out 0).trans rfl,(blk_cell BK176.out 1).trans rfl,(blk_cell BK176.out 2).trans rfl,(blk_cell BK176.out 3).trans rfl,(blk_cell BK176.out 4).trans rfl,(blk_cell BK176.out 5).trans rfl,(blk_cell BK176.out 6).trans rfl,(blk_cell BK176.out 7).trans rfl,(blk_cell BK176.out 8).trans rfl,(blk_cell BK176.out 9).trans rfl,(blk_cell BK176.out 10).trans rfl⟩ (fun hHeld => ?_)
          clear hK K
          refine norm_ (a' := ?_) ?_ ?_
          rotate_left
          ·show Act.put _ (some 52) _ = _
           simp only [Act.put,List.setIfInBounds_toArray,List.set_cons_zero,List.set_cons_succ,i64_w,i32_w]
           rfl
          exact norm_ (by simp only [putAll,Act.put,List.setIfInBounds_toArray,List.set_cons_zero,List.set_cons_succ]) (hCont (.slice Ao40 t197.length co40,.slice Ao41 y200.length co41,.slice Ao43 t204.length co43,v212,v215) _ ⟨hHeld,(by (with_reducible repeat (first | apply Kd.S_alloc | apply Kd.S_drewN | apply Kd.S_drew));exact Kd.S_mono HO175.out (fun _ hk => ⟨hk.1.1.1.1.1.1.1.2,⟨hk.1.1.1.1.1.1.2,⟨hk.1.1.1.1.1.2,⟨hk.1.1.1.1.2,⟨hk.1.1.1.2,⟨hk.1.1.2,⟨hk.1.2,hk.2⟩⟩⟩⟩⟩⟩⟩)),(by (with_reducible repeat (first | apply Kd.R_alloc | apply Kd.R_drewN | apply Kd.R_drew));exact HO179.out),(by (with_reducible repeat (first | apply Kd.R_alloc | apply Kd.R_drewN | apply Kd.R_drew));exact Kd.R_mono HO182.out (fun _ hk => ⟨hk.1.1.1.1.1.1.2,⟨hk.1.1.1.1.1.2,⟨hk.1.1.1.1.2,⟨hk.1.1.1.2,⟨hk.1.1.2,⟨hk.1.2,hk.2⟩⟩⟩⟩⟩⟩)),(by (with_reducible repeat (first | apply Kd.R_alloc | apply Kd.R_drewN | apply Kd.R_drew));exact Kd.R_mono HO185.out (fun _ hk => hk.2)),(by (with_reducible repeat (first | apply Kd.R_alloc | apply Kd.R_drewN | apply Kd.R_drew));exact Kd.R_mono HO188.out (fun _ hk => ⟨hk.1.1.1.1.1.1.2,⟨hk.1.1.1.1.1.2,⟨hk.1.1.1.1.2,⟨hk.1.1.1.2,⟨hk.1.1.2,⟨hk.1.2,hk.2⟩⟩⟩⟩⟩⟩)),(by (with_reducible repeat (first | apply Kd.R_alloc | apply Kd.R_drewN | apply Kd.R_drew));exact Kd.R_mono HO191.out (fun _ hk => hk.2)),(by (with_reducible repeat (first | apply Kd.R_alloc | apply Kd.R_drewN | apply Kd.R_drew));exact Kd.R_mono HO195.out (fun _ hk => ⟨hk.1.1.1.1.1.1.2,⟨hk.1.1.1.1.1.2,⟨hk.1.1.1.1.2,⟨hk.1.1.1.2,⟨hk.1.1.2,⟨hk.1.2,hk.2⟩⟩⟩⟩⟩⟩)),(by (with_reducible repeat (first | apply Kd.R_alloc | apply Kd.R_drewN | apply Kd.R_drew));exact Kd.R_mono HO199.out (fun _ hk => ⟨hk.1.1.1.1.1.1.2,⟨hk.1.1.1.1.1.2,⟨hk.1.1.1.1.2,⟨hk.1.1.1.2,⟨hk.1.1.2,⟨hk.1.2,hk.2⟩⟩⟩⟩⟩⟩)),(by (with_reducible repeat (first | apply Kd.R_alloc | apply Kd.R_drewN | apply Kd.R_drew));exact Kd.R_mono HO202.out (fun _ hk => ⟨hk.1.1.1.1.1.1.2,⟨hk.1.1.1.1.1.2,⟨hk.1.1.1.1.2,⟨hk.1.1.1.2,⟨hk.1.1.2,⟨hk.1.2,hk.2⟩⟩⟩⟩⟩⟩)),(by (with_reducible repeat (first | apply Kd.R_alloc | apply Kd.R_drewN | apply Kd.R_drew));exact Kd.R_mono HO206.out (fun _ hk => ⟨hk.1.1.1.1.1.1.2,⟨hk.1.1.1.1.1.2,⟨hk.1.1.1.1.2,⟨hk.1.1.1.2,⟨hk.1.1.2,⟨hk.1.2,hk.2⟩⟩⟩⟩⟩⟩)),(by (with_reducible repeat (first | apply Kd.R_alloc | apply Kd.R_drewN | apply Kd.R_drew));exact Kd.R_mono HO213.out (fun _ hk => ⟨hk.1.1.1.1.1.1.2,⟨hk.1.1.1.1.1.2,⟨hk.1.1.1.1.2,⟨hk.1.1.1.2,⟨hk.1.1.2,⟨hk.1.2,hk.2⟩⟩⟩⟩⟩⟩)),(by (with_reducible repeat (first | apply Kd.R_alloc | apply Kd.R_drewN | apply Kd.R_drew));exact Kd.R_mono HO216.out (fun _ hk => ⟨hk.1.1.1.1.1.1.2,⟨hk.1.1.1.1.1.2,⟨hk.1.1.1.1.2,⟨hk.1.1.1.2,⟨hk.1.1.2,⟨hk.1.2,hk.2⟩⟩⟩⟩⟩⟩)),(by (with_reducible repeat (first | refine blk_drewN ?_ _ | refine blk_drew ?_ | refine blk_alloc ?_ _));exact BK176.out),(by repeat (first | (with_reducible first | exact HB.out | apply below_alloc | apply pw_below_drewN | apply below_drew1 | refine below_set ?_ GE176.out) | exact HB.out))⟩)
         ·skip
          refine Kd.R_lit_step (Kd.int .i64) _ 3 ?hg (N := 52) ?hd (xs := ([0,2,0] : List Int)) (inner := [.int .i64 0,.int .i64 2,.int .i64 0]) (ok := fun _ => True) (okp := fun _ => True) ?hr ?hp (fun _ hk => hk) trivial (Below.refl _ _) (Nat.le_refl _) (by simp) ?_;(case hd => rfl);(case hg => rfl);(case hr => first | (go_simp;done) | (go_simp;rfl));(case hp => exact (Reps.one (show Kd.M (Kd.int .i64) _ _ _ 0 [.int .i64 0] from rfl) (Reps.one (show Kd.M (Kd.int .i64) _ _ _ 2 [.int .i64 2] from rfl) (Reps.one (show Kd.M (Kd.int .i64) _ _ _ 0 [.int .i64 0] from rfl) (Reps.none _ _)))))
          intro v215 w44 ho45 hb hg_ hnew_
          clear hg_ hnew_
          (first | rw [← Ny214.out] at ho45 | (simp only [Int.reduceToNat] at ho45;rw [← Ny214.out] at ho45))
          have n0_ := Aside0.mk (Kd.S_elder' (by (with_reducible repeat (first | apply Kd.S_alloc | apply Kd.S_drewN | apply Kd.S_drew));exact HO175.out) (Kd.R_base ho45) hb)
          have n1_ := Aside0.mk (Kd.R_below (by (with_reducible repeat (first | apply Kd.R_alloc | apply Kd.R_drewN | apply Kd.R_drew));exact HO179.out) hb)
          have n2_ := Aside0.mk (Kd.R_elder' (by (with_reducible repeat (first | apply Kd.R_alloc | apply Kd.R_drewN | apply Kd.R_drew));exact HO182.out) (Kd.R_base ho45) hb)
          have n3_ := Aside0.mk (Kd.R_below (by (with_reducible repeat (first | apply Kd.R_alloc | apply Kd.R_drewN | apply Kd.R_drew));exact HO185.out) hb)
          have n4_ := Aside0.mk (Kd.R_elder' (by (with_reducible repeat (first | apply Kd.R_alloc | apply Kd.R_drewN | apply Kd.R_drew));exact HO188.out) (Kd.R_base ho45) hb)
          have n5_ := Aside0.mk (Kd.R_below (by (with_reducible repeat (first | apply Kd.R_alloc | apply Kd.R_drewN | apply Kd.R_drew));exact HO191.out) hb)
          have n6_ := Aside0.mk (Kd.R_elder' (by (with_reducible repeat (first | apply Kd.R_alloc | apply Kd.R_drewN | apply Kd.R_drew));exact HO195.out) (Kd.R_base ho45) hb)
          have n7_ := Aside0.mk (Kd.R_elder' (by (with_reducible repeat (first | apply Kd.R_alloc | apply Kd.R_drewN | apply Kd.R_drew));exact HO199.out) (Kd.R_base ho45) hb)
          have n8_ := Aside0.mk (Kd.R_elder' (by (with_reducible repeat (first | apply Kd.R_alloc | apply Kd.R_drewN | apply Kd.R_drew));exact HO202.out) (Kd.R_base ho45) hb)
          have n9_ := Aside0.mk (Kd.R_elder' (by (with_reducible repeat (first | apply Kd.R_alloc | apply Kd.R_drewN | apply Kd.R_drew));exact HO206.out) (Kd.R_base ho45) hb)
          have n10_ := Aside0.mk (Kd.R_lower (Kd.R_new' (Kd.R_new' (Kd.R_new' (Kd.R_new' (Kd.R_new' (Kd.R_new' ho45 (Kd.R_lt (by (with_reducible repeat (first | apply Kd.R_alloc | apply Kd.R_drewN | apply Kd.R_drew));exact HO182.out))) (Kd.R_lt (by (with_reducible repeat (first | apply Kd.R_alloc | apply Kd.R_drewN | apply Kd.R_drew));exact HO188.out))) (Kd.R_lt (by (with_reducible repeat (first | apply Kd.R_alloc | apply Kd.R_drewN | apply Kd.R_drew));exact HO195.out))) (Kd.R_lt (by (with_reducible repeat (first | apply Kd.R_alloc | apply Kd.R_drewN | apply Kd.R_drew));exact HO199.out))) (Kd.R_lt (by (with_reducible repeat (first | apply Kd.R_alloc | apply Kd.R_drewN | apply Kd.R_drew));exact HO202.out))) (Kd.R_lt (by (with_reducible repeat (first | apply Kd.R_alloc | apply Kd.R_drewN | apply Kd.R_drew));exact HO206.out))) (below_size (by repeat (first | (with_reducible first | exact HB.out | apply below_alloc | apply pw_below_drewN | apply below_drew1 | refine below_set ?_ GE176.out) | exact HB.out))))
          have n11_ := Aside0.mk (blk_below (g := gb176) (o := .cells #[.string (⟨#[]⟩ : ByteArray),.slice none 0 0,.int .i64 0,.slice Ao17 y173.length co17,.slice none 0 0,.slice none 0 0,.slice none 0 0,.slice none 0 0,.slice none 0 0,.slice none 0 0,.int .i64 0] 31 (0,0)) (by (with_reducible repeat (first | refine blk_drewN ?_ _ | refine blk_drew ?_ | refine blk_alloc ?_ _));exact BK176.out) hb)
          have n12_ := Aside0.mk (below_step (by repeat (first | (with_reducible first | exact HB.out | apply below_alloc | apply pw_below_drewN | apply below_drew1 | refine below_set ?_ GE176.out) | exact HB.out)) hb)
          clear HO175
          clear HO179
          clear HO182
          clear HO185
          clear HO188
          clear HO191
          clear HO195
          clear HO199
          clear HO202
          clear HO206
          clear BK176
          clear HB
          have HO175 := n0_
          have HO179 := n1_
          have HO182 := n2_
          have HO185 := n3_
          have HO188 := n4_
          have HO191 := n5_
          have HO195 := n6_
          have HO199 := n7_
          have HO202 := n8_
          have HO206 := n9_
          have HO216 := n10_
          have BK176 := n11_
          have HB := n12_
          clear n0_ n1_ n2_ n3_ n4_ n5_ n6_ n7_ n8_ n9_ n10_ n11_ n12_
          clear hb ho45
          refine hK.out _ _ ⟨(blk_cell BK176.out 0).trans rfl,(blk_cell BK176.out 1).trans rfl,(blk_cell BK176.out 2).trans rfl,(blk_cell BK176.out 3).trans rfl,(blk_cell BK176.out 4).trans rfl,(blk_cell BK176.out 5).trans rfl,(blk_cell BK176.out 6).trans rfl,(blk_cell BK176.out 7).trans rfl,(blk_cell BK176.out 8).trans rfl,(blk_cell BK176.out 9).trans rfl,(blk_cell BK176.out 10).trans rfl⟩ (fun hHeld => ?_)
          clear hK K
          refine norm_ (a' := ?_) ?_ ?_
          rotate_left
          ·show Act.put _ (some 52) _ = _
           simp only [Act.put,List.setIfInBounds_toArray,List.set_cons_zero,List.set_cons_succ,i64_w,i32_w]
           rfl
          refine one_ (i := 25) (N := some 51) #[true,true,true,true,true,true,true,true,true,true,true,true,true,true,true,true,true,true,true,true,true,true,true,true,true,true,true,false,false,false] rfl rfl (one_of HT_.out (by kernel_rfl)) (by decide) (fun K hK => ?_)
          refine goes_ Try.func15 (by kernel_rfl) rfl #[.agg #[.string (⟨#[]⟩ : ByteArray),.slice none 0 0,.int .i64 0,.slice Ao17 y173.length co17,.slice none 0 0,.slice none 0 0,.slice none 0 0,.slice none 0 0,.slice none 0 0,.slice none 0 0,.int .i64 0],.slice Ao25 y177.length co25,(.slice A49 y207.length c49)] (by rfl) rfl rfl (by (try simp only [List.map_toArray,List.map_cons,List.map_nil]);first | done | rfl | (simp only [List.length_drop,List.length_take];rfl)) ?_
          refine (allot_Back.calls k (⟨#[]⟩ : ByteArray) _ _ ([] : List ByteArray) 0 _ _ y173 _ _ ([] : List (S98)) _ _ ([] : List (S100)) _ _ ([] : List (S102)) _ _ ([] : List (S104)) _ _ ([] : List (S106)) _ _ ([] : List Int) 0 _ _ y177 _ _ y207 t211 _ ?side1 ?side2 ?side3 ?side4 ?side5 ?side6 ?side7 ?side8 ?side9 ?side10 ?side11 ?side12 ?side13 ?side14 ?side15 ?side16 ?side17 ?side18 ?side19 ?side20 A13.out).mono ?_
          (case side1 => exact Kd.C_nil _ _)
          (case side2 => exact Nat.le_refl _)
          (case side3 => repeat (first | exact (Kd.S_reads' HO175.out).2.2 | (with_reducible refine Kd.C_alloc ?_ _) | (with_reducible refine Kd.C_drewN ?_ _) | (with_reducible refine Kd.C_drew ?_)))
          (case side4 => exact (Kd.S_reads' HO175.out).2.1)
          (case side5 => exact Kd.C_nil _ _)
          (case side6 => exact Nat.le_refl _)
          (case side7 => exact Kd.C_nil _ _)
          (case side8 => exact Nat.le_refl _)
          (case side9 => exact Kd.C_nil _ _)
          (case side10 => exact Nat.le_refl _)
          (case side11 => exact Kd.C_nil _ _)
          (case side12 => exact Nat.le_refl _)
          (case side13 => exact Kd.C_nil _ _)
          (case side14 => exact Nat.le_refl _)
          (case side15 => exact Kd.C_nil _ _)
          (case side16 => exact Nat.le_refl _)
          (case side17 => repeat (first | exact (Kd.R_reads' HO179.out).2.2 | (with_reducible refine Kd.C_alloc ?_ _) | (with_reducible refine Kd.C_drewN ?_ _) | (with_reducible refine Kd.C_drew ?_)))
          (case side18 => exact (Kd.R_reads' HO179.out).2.1)
          (case side19 => exact (by have hz_ := Kd.C_mid (lo := (1 : Int).toNat) (hi := (2 : Int).toNat) (c := co30) (Kd.R_reads' HO185.out).2.2 (by omega) (by omega) (Kd.R_reads' HO185.out).2.1;rw [show ((_ : List S47).take (2 : Int).toNat).drop (1 : Int).toNat = y207 from Ny207.out.symm] at hz_;rw [hA49];exact hz_))
          (case side20 => exact HC210.out)
          rintro e w46 ⟨v212,rfl,ho0,hb⟩
          refine ⟨_,rfl,?_⟩
          have n0_ := Aside0.mk (Kd.S_elder' (by (with_reducible repeat (first | apply Kd.S_alloc | apply Kd.S_drewN | apply Kd.S_drew));exact HO175.out) (Kd.R_base ho0) hb)
          have n1_ := Aside0.mk (Kd.R_below (by (with_reducible repeat (first | apply Kd.R_alloc | apply Kd.R_drewN | apply Kd.R_drew));exact HO179.out) hb)
          have n2_ := Aside0.mk (Kd.R_elder' (by (with_reducible repeat (first | apply Kd.R_alloc | apply Kd.R_drewN | apply Kd.R_drew));exact HO182.out) (Kd.R_base ho0) hb)
          have n3_ := Aside0.mk (Kd.R_below (by (with_reducible repeat (first | apply Kd.R_alloc | apply Kd.R_drewN | apply Kd.R_drew));exact HO185.out) hb)
          have n4_ := Aside0.mk (Kd.R_elder' (by (with_reducible repeat (first | apply Kd.R_alloc | apply Kd.R_drewN | apply Kd.R_drew));exact HO188.out) (Kd.R_base ho0) hb)
          have n5_ := Aside0.mk (Kd.R_below (by (with_reducible repeat (first | apply Kd.R_alloc | apply Kd.R_drewN | apply Kd.R_drew));exact HO191.out) hb)
          have n6_ := Aside0.mk (Kd.R_elder' (by (with_reducible repeat (first | apply Kd.R_alloc | apply Kd.R_drewN | apply Kd.R_drew));exact HO195.out) (Kd.R_base ho0) hb)
          have n7_ := Aside0.mk (Kd.R_elder' (by (with_reducible repeat (first | apply Kd.R_alloc | apply Kd.R_drewN | apply Kd.R_drew));exact HO199.out) (Kd.R_base ho0) hb)
          have n8_ := Aside0.mk (Kd.R_elder' (by (with_reducible repeat (first | apply Kd.R_alloc | apply Kd.R_drewN | apply Kd.R_drew));exact HO202.out) (Kd.R_base ho0) hb)
          have n9_ := Aside0.mk (Kd.R_elder' (by (with_reducible repeat (first | apply Kd.R_alloc | apply Kd.R_drewN | apply Kd.R_drew));exact HO206.out) (Kd.R_base ho0) hb)
          have n10_ := Aside0.mk (Kd.R_elder' (by (with_reducible repeat (first | apply Kd.R_alloc | apply Kd.R_drewN | apply Kd.R_drew));exact HO216.out) (Kd.R_base ho0) hb)
          have n11_ := Aside0.mk (Kd.R_lower (Kd.R_new' (Kd.R_new' (Kd.R_new' (Kd.R_new' (Kd.R_new' (Kd.R_new' (Kd.R_new' ho0 (Kd.R_lt (by (with_reducible repeat (first | apply Kd.R_alloc | apply Kd.R_drewN | apply Kd.R_drew));exact HO182.out))) (Kd.R_lt (by (with_reducible repeat (first | apply Kd.R_alloc | apply Kd.R_drewN | apply Kd.R_drew));exact HO188.out))) (Kd.R_lt (by (with_reducible repeat (first | apply Kd.R_alloc | apply Kd.R_drewN | apply Kd.R_drew));exact HO195.out))) (Kd.R_lt (by (with_reducible repeat (first | apply Kd.R_alloc | apply Kd.R_drewN | apply Kd.R_drew));exact HO199.out))) (Kd.R_lt (by (with_reducible repeat (first | apply Kd.R_alloc | apply Kd.R_drewN | apply Kd.R_drew));exact HO202.out))) (Kd.R_lt (by (with_reducible repeat (first | apply Kd.R_alloc | apply Kd.R_drewN | apply Kd.R_drew));exact HO206.out))) (Kd.R_lt (by (with_reducible repeat (first | apply Kd.R_alloc | apply Kd.R_drewN | apply Kd.R_drew));exact HO216.out))) (below_size (by repeat (first | (with_reducible first | exact HB.out | apply below_alloc | apply pw_below_drewN | apply below_drew1 | refine below_set ?_ GE176.out) | exact HB.out))))
          have n12_ := Aside0.mk (blk_below (g := gb176) (o := .cells #[.string (⟨#[]⟩ : ByteArray),.slice none 0 0,.int .i64 0,.slice Ao17 y173.length co17,.slice none 0 0,.slice none 0 0,.slice none 0 0,.slice none 0 0,.slice none 0 0,.slice none 0 0,.int .i64 0] 31 (0,0)) (by (with_reducible repeat (first | refine blk_drewN ?_ _ | refine blk_drew ?_ | refine blk_alloc ?_ _));exact BK176.out) hb)
          have n13_ := Aside0.mk (below_step (by repeat (first | (with_reducible first | exact HB.out | apply below_alloc | apply pw_below_drewN | apply below_drew1 | refine below_set ?_ GE176.out) | exact HB.out)) hb)
          clear HO175
          clear HO179
          clear HO182
          clear HO185
          clear HO188
          clear HO191
          clear HO195
          clear HO199
          clear HO202
          clear HO206
          clear HO216
          clear BK176
          clear HB
          have HO175 := n0_
          have HO179 := n1_
          have HO182 := n2_
          have HO185 := n3_
          have HO188 := n4_
          have HO191 := n5_
          have HO195 := n6_
          have HO199 := n7_
          have HO202 := n8_
          have HO206 := n9_
          have HO216 := n10_
          have HO213 := n11_
          have BK176 := n12_
          have HB := n13_
          clear n0_ n1_ n2_ n3_ n4_ n5_ n6_ n7_ n8_ n9_ n10_ n11_ n12_ n13_
          (try clear hb)
          (try clear hb2)
          (try clear hk)
          (try clear hi)
          (try clear ho0)
          refine hK.out _ _ ⟨(blk_cell BK176.out 0).trans rfl,(blk_cell BK176.out 1).trans rfl,(blk_cell BK176.out 2).trans rfl,(blk_cell BK176.out 3).trans rfl,(blk_cell BK176.out 4).trans rfl,(blk_cell BK176.out 5).trans rfl,(blk_cell BK176.out 6).trans rfl,(blk_cell BK176.out 7).trans rfl,(blk_cell BK176.out 8).trans rfl,(blk_cell BK176.out 9).trans rfl,(blk_cell BK176.out 10).trans rfl⟩ (fun hHeld => ?_)
          clear hK K
          refine norm_ (a' := ?_) ?_ ?_
          rotate_left
          ·show Act.put _ (some 51) _ = _
           simp only [Act.put,List.setIfInBounds_toArray,List.set_cons_zero,List.set_cons_succ,i64_w,i32_w]
           rfl
          exact norm_ (by simp only [putAll,Act.put,List.setIfInBounds_toArray,List.set_cons_zero,List.set_cons_succ]) (hCont (.slice Ao40 t197.length co40,.slice Ao41 y200.length co41,.slice Ao43 t204.length co43,v212,v215) _ ⟨hHeld,(by (with_reducible repeat (first | apply Kd.S_alloc | apply Kd.S_drewN | apply Kd.S_drew));exact Kd.S_mono HO175.out (fun _ hk => ⟨hk.1.1.1.1.1.1.1.2,⟨hk.1.1.1.1.1.1.2,⟨hk.1.1.1.1.1.2,⟨hk.1.1.1.1.2,⟨hk.1.1.1.2,⟨hk.1.1.2,⟨hk.2,hk.1.2⟩⟩⟩⟩⟩⟩⟩)),(by (with_reducible repeat (first | apply Kd.R_alloc | apply Kd.R_drewN | apply Kd.R_drew));exact HO179.out),(by (with_reducible repeat (first | apply Kd.R_alloc | apply Kd.R_drewN | apply Kd.R_drew));exact Kd.R_mono HO182.out (fun _ hk => ⟨hk.1.1.1.1.1.1.2,⟨hk.1.1.1.1.1.2,⟨hk.1.1.1.1.2,⟨hk.1.1.1.2,⟨hk.1.1.2,⟨hk.2,hk.1.2⟩⟩⟩⟩⟩⟩)),(by (with_reducible repeat (first | apply Kd.R_alloc | apply Kd.R_drewN | apply Kd.R_drew));exact Kd.R_mono HO185.out (fun _ hk => hk.2)),(by (with_reducible repeat (first | apply Kd.R_alloc | apply Kd.R_drewN | apply Kd.R_drew));exact Kd.R_mono HO188.out (fun _ hk => ⟨hk.1.1.1.1.1.1.2,⟨hk.1.1.1.1.1.2,⟨hk.1.1.1.1.2,⟨hk.1.1.1.2,⟨hk.1.1.2,⟨hk.2,hk.1.2⟩⟩⟩⟩⟩⟩)),(by (with_reducible repeat (first | apply Kd.R_alloc | apply Kd.R_drewN | apply Kd.R_drew));exact Kd.R_mono HO191.out (fun _ hk => hk.2)),(by (with_reducible repeat (first | apply Kd.R_alloc | apply Kd.R_drewN | apply Kd.R_drew));exact Kd.R_mono HO195.out (fun _ hk => ⟨hk.1.1.1.1.1.1.2,⟨hk.1.1.1.1.1.2,⟨hk.1.1.1.1.2,⟨hk.1.1.1.2,⟨hk.1.1.2,⟨hk.2,hk.1.2⟩⟩⟩⟩⟩⟩)),(by (with_reducible repeat (first | apply Kd.R_alloc | apply Kd.R_drewN | apply Kd.R_drew));exact Kd.R_mono HO199.out (fun _ hk => ⟨hk.1.1.1.1.1.1.2,⟨hk.1.1.1.1.1.2,⟨hk.1.1.1.1.2,⟨hk.1.1.1.2,⟨hk.1.1.2,⟨hk.2,hk.1.2⟩⟩⟩⟩⟩⟩)),(by (with_reducible repeat (first | apply Kd.R_alloc | apply Kd.R_drewN | apply Kd.R_drew));exact Kd.R_mono HO202.out (fun _ hk => ⟨hk.1.1.1.1.1.1.2,⟨hk.1.1.1.1.1.2,⟨hk.1.1.1.1.2,⟨hk.1.1.1.2,⟨hk.1.1.2,⟨hk.2,hk.1.2⟩⟩⟩⟩⟩⟩)),(by (with_reducible repeat (first | apply Kd.R_alloc | apply Kd.R_drewN | apply Kd.R_drew));exact Kd.R_mono HO206.out (fun _ hk => ⟨hk.1.1.1.1.1.1.2,⟨hk.1.1.1.1.1.2,⟨hk.1.1.1.1.2,⟨hk.1.1.1.2,⟨hk.1.1.2,⟨hk.2,hk.1.2⟩⟩⟩⟩⟩⟩)),(by (with_reducible repeat (first | apply Kd.R_alloc | apply Kd.R_drewN | apply Kd.R_drew));exact Kd.R_mono HO213.out (fun _ hk => ⟨hk.1.1.1.1.1.1.2,⟨hk.1.1.1.1.1.2,⟨hk.1.1.1.1.2,⟨hk.1.1.1.2,⟨hk.1.1.2,⟨hk.1.2,hk.2⟩⟩⟩⟩⟩⟩)),(by (with_reducible repeat (first | apply Kd.R_alloc | apply Kd.R_drewN | apply Kd.R_drew));exact Kd.R_mono HO216.out (fun _ hk => ⟨hk.1.1.1.1.1.1.2,⟨hk.1.1.1.1.1.2,⟨hk.1.1.1.1.2,⟨hk.1.1.1.2,⟨hk.1.1.2,⟨hk.1.2,hk.2⟩⟩⟩⟩⟩⟩)),(by (with_reducible repeat (first | refine blk_drewN ?_ _ | refine blk_drew ?_ | refine blk_alloc ?_ _));exact BK176.out),(by repeat (first | (with_reducible first | exact HB.out | apply below_alloc | apply pw_below_drewN | apply below_drew1 | refine below_set ?_ GE176.out) | exact HB.out))⟩)
        ·skip
         refine Kd.R_lit_step (Kd.int .i64) _ 3 ?hg (N := 37) ?hd (xs := ([0,2] : List Int)) (inner := [.int .i64 0,.int .i64 2]) (ok := fun _ => True) (okp := fun _ => True) ?hr ?hp (fun _ hk => hk) trivial (Below.refl _ _) (Nat.le_refl _) (by simp) ?_;(case hd => rfl);(case hg => rfl);(case hr => first | (go_simp;done) | (go_simp;rfl));(case hp => exact (Reps.one (show Kd.M (Kd.int .i64) _ _ _ 0 [.int .i64 0] from rfl) (Reps.one (show Kd.M (Kd.int .i64) _ _ _ 2 [.int .i64 2] from rfl) (Reps.none _ _))))
         intro v201 w37 ho38 hb hg_ hnew_
         clear hg_ hnew_
         (first | rw [← Ny200.out] at ho38 | (simp only [Int.reduceToNat] at ho38;rw [← Ny200.out] at ho38))
         have n0_ := Aside0.mk (Kd.S_elder' (by (with_reducible repeat (first | apply Kd.S_alloc | apply Kd.S_drewN | apply Kd.S_drew));exact HO175.out) (Kd.R_base ho38) hb)
         have n1_ := Aside0.mk (Kd.R_below (by (with_reducible repeat (first | apply Kd.R_alloc | apply Kd.R_drewN | apply Kd.R_drew));exact HO179.out) hb)
         have n2_ := Aside0.mk (Kd.R_elder' (by (with_reducible repeat (first | apply Kd.R_alloc | apply Kd.R_drewN | apply Kd.R_drew));exact HO182.out) (Kd.R_base ho38) hb)
         have n3_ := Aside0.mk (Kd.R_below (by (with_reducible repeat (first | apply Kd.R_alloc | apply Kd.R_drewN | apply Kd.R_drew));exact HO185.out) hb)
         have n4_ := Aside0.mk (Kd.R_elder' (by (with_reducible repeat (first | apply Kd.R_alloc | apply Kd.R_drewN | apply Kd.R_drew));exact HO188.out) (Kd.R_base ho38) hb)
         have n5_ := Aside0.mk (Kd.R_below (by (with_reducible repeat (first | apply Kd.R_alloc | apply Kd.R_drewN | apply Kd.R_drew));exact HO191.out) hb)
         have n6_ := Aside0.mk (Kd.R_elder' (by (with_reducible repeat (first | apply Kd.R_alloc | apply Kd.R_drewN | apply Kd.R_drew));exact HO195.out) (Kd.R_base ho38) hb)
         have n7_ := Aside0.mk (Kd.R_lower (Kd.R_new' (Kd.R_new' (Kd.R_new' ho38 (Kd.R_lt (by (with_reducible repeat (first | apply Kd.R_alloc | apply Kd.R_drewN | apply Kd.R_drew));exact HO182.out))) (Kd.R_lt (by (with_reducible repeat (first | apply Kd.R_alloc | apply Kd.R_drewN | apply Kd.R_drew));exact HO188.out))) (Kd.R_lt (by (with_reducible repeat (first | apply Kd.R_alloc | apply Kd.R_drewN | apply Kd.R_drew));exact HO195.out))) (below_size (by repeat (first | (with_reducible first | exact HB.out | apply below_alloc | apply pw_below_drewN | apply below_drew1 | refine below_set ?_ GE176.out) | exact HB.out))))
         have n8_ := Aside0.mk (blk_below (g := gb176) (o := .cells #[.string (⟨#[]⟩ : ByteArray),.slice none 0 0,.int .i64 0,.slice Ao17 y173.length co17,.slice none 0 0,.slice none 0 0,.slice none 0 0,.slice none 0 0,.slice none 0 0,.slice none 0 0,.int .i64 0] 31 (0,0)) (by (with_reducible repeat (first | refine blk_drewN ?_ _ | refine blk_drew ?_ | refine blk_alloc ?_ _));exact BK176.out) hb)
         have n9_ := Aside0.mk (below_step (by repeat (first | (with_reducible first | exact HB.out | apply below_alloc | apply pw_below_drewN | apply below_drew1 | refine below_set ?_ GE176.out) | exact HB.out)) hb)
         clear HO175
         clear HO179
         clear HO182
         clear HO185
         clear HO188
         clear HO191
         clear HO195
         clear BK176
         clear HB
         have HO175 := n0_
         have HO179 := n1_
         have HO182 := n2_
         have HO185 := n3_
         have HO188 := n4_
         have HO191 := n5_
         have HO195 := n6_
         have HO202 := n7_
         have BK176 := n8_
         have HB := n9_
         clear n0_ n1_ n2_ n3_ n4_ n5_ n6_ n7_ n8_ n9_
         clear hb ho38
         refine hK.out _ _ ⟨(blk_cell BK176.out 0).trans rfl,(blk_cell BK176.out 1).trans rfl,(blk_cell BK176.out 2).trans rfl,(blk_cell BK176.out 3).trans rfl,(blk_cell BK176.out 4).trans rfl,(blk_cell BK176.out 5).trans rfl,(blk_cell BK176.out 6).trans rfl,(blk_cell BK176.out 7).trans rfl,(blk_cell BK176.out 8).trans rfl,(blk_cell BK176.out 9).trans rfl,(blk_cell BK176.out 10).trans rfl⟩ (fun hHeld => ?_)
         clear hK K
         refine norm_ (a' := ?_) ?_ ?_
         rotate_left
         ·show Act.put _ (some 37) _ = _
          simp only [Act.put,List.setIfInBounds_toArray,List.set_cons_zero,List.set_cons_succ,i64_w,i32_w]
          rfl
         refine one_ (i := 10) (N := some 36) #[true,true,true,true,true,true,true,true,true,true,true,true,false,false,false,false,false,false,false,false,false,false,false,false,false,false,false,false,false,false] rfl rfl (one_of HT_.out (by kernel_rfl)) (by decide) (fun K hK => ?_)
         refine goes_ Try.func13 (by kernel_rfl) rfl #[.agg #[.string (⟨#[]⟩ : ByteArray),.slice none 0 0,.int .i64 0,.slice Ao17 y173.length co17,.slice none 0 0,.slice none 0 0,.slice none 0 0,.slice none 0 0,.slice none 0 0,.slice none 0 0,.int .i64 0],.int .i64 0] (by rfl) rfl rfl (by (try simp only [List.map_toArray,List.map_cons,List.map_nil]);first | done | rfl | (simp only [List.length_drop,List.length_take];rfl)) ?_
         refine (allot_Reach.calls k (⟨#[]⟩ : ByteArray) _ _ ([] : List ByteArray) 0 _ _ y173 _ _ ([] : List (S98)) _ _ ([] : List (S100)) _ _ ([] : List (S102)) _ _ ([] : List (S104)) _ _ ([] : List (S106)) _ _ ([] : List Int) 0 0 t197 _ ?side1 ?side2 ?side3 ?side4 ?side5 ?side6 ?side7 ?side8 ?side9 ?side10 ?side11 ?side12 ?side13 ?side14 ?side15 ?side16 A6.out).mono ?_
         (case side1 => exact Kd.C_nil _ _)
         (case side2 => exact Nat.le_refl _)
         (case side3 => repeat (first | exact (Kd.S_reads' HO175.out).2.2 | (with_reducible refine Kd.C_alloc ?_ _) | (with_reducible refine Kd.C_drewN ?_ _) | (with_reducible refine Kd.C_drew ?_)))
         (case side4 => exact (Kd.S_reads' HO175.out).2.1)
         (case side5 => exact Kd.C_nil _ _)
         (case side6 => exact Nat.le_refl _)
         (case side7 => exact Kd.C_nil _ _)
         (case side8 => exact Nat.le_refl _)
         (case side9 => exact Kd.C_nil _ _)
         (case side10 => exact Nat.le_refl _)
         (case side11 => exact Kd.C_nil _ _)
         (case side12 => exact Nat.le_refl _)
         (case side13 => exact Kd.C_nil _ _)
         (case side14 => exact Nat.le_refl _)
         (case side15 => exact Kd.C_nil _ _)
         (case side16 => exact Nat.le_refl _)
         rintro e w39 ⟨v198,rfl,ho0,hb⟩
         refine ⟨_,rfl,?_⟩
         have n0_ := Aside0.mk (Kd.S_elder' (by (with_reducible repeat (first | apply Kd.S_alloc | apply Kd.S_drewN | apply Kd.S_drew));exact HO175.out) (Kd.R_base ho0) hb)
         have n1_ := Aside0.mk (Kd.R_below (by (with_reducible repeat (first | apply Kd.R_alloc | apply Kd.R_drewN | apply Kd.R_drew));exact HO179.out) hb)
         have n2_ := Aside0.mk (Kd.R_elder' (by (with_reducible repeat (first | apply Kd.R_alloc | apply Kd.R_drewN | apply Kd.R_drew));exact HO182.out) (Kd.R_base ho0) hb)
         have n3_ := Aside0.mk (Kd.R_below (by (with_reducible repeat (first | apply Kd.R_alloc | apply Kd.R_drewN | apply Kd.R_drew));exact HO185.out) hb)
         have n4_ := Aside0.mk (Kd.R_elder' (by (with_reducible repeat (first | apply Kd.R_alloc | apply Kd.R_drewN | apply Kd.R_drew));exact HO188.out) (Kd.R_base ho0) hb)
         have n5_ := Aside0.mk (Kd.R_below (by (with_reducible repeat (first | apply Kd.R_alloc | apply Kd.R_drewN | apply Kd.R_drew));exact HO191.out) hb)
         have n6_ := Aside0.mk (Kd.R_elder' (by (with_reducible repeat (first | apply Kd.R_alloc | apply Kd.R_drewN | apply Kd.R_drew));exact HO195.out) (Kd.R_base ho0) hb)
         have n7_ := Aside0.mk (Kd.R_elder' (by (with_reducible repeat (first | apply Kd.R_alloc | apply Kd.R_drewN | apply Kd.R_drew));exact HO202.out) (Kd.R_base ho0) hb)
         have n8_ := Aside0.mk (Kd.R_lower (Kd.R_new' (Kd.R_new' (Kd.R_new' (Kd.R_new' ho0 (Kd.R_lt (by (with_reducible repeat (first | apply Kd.R_alloc | apply Kd.R_drewN | apply Kd.R_drew));exact HO182.out))) (Kd.R_lt (by (with_reducible repeat (first | apply Kd.R_alloc | apply Kd.R_drewN | apply Kd.R_drew));exact HO188.out))) (Kd.R_lt (by (with_reducible repeat (first | apply Kd.R_alloc | apply Kd.R_drewN | apply Kd.R_drew));exact HO195.out))) (Kd.R_lt (by (with_reducible repeat (first | apply Kd.R_alloc | apply Kd.R_drewN | apply Kd.R_drew));exact HO202.out))) (below_size (by repeat (first | (with_reducible first | exact HB.out | apply below_alloc | apply pw_below_drewN | apply below_drew1 | refine below_set ?_ GE176.out) | exact HB.out))))
         have n9_ := Aside0.mk (blk_below (g := gb176) (o := .cells #[.string (⟨#[]⟩ : ByteArray),.slice none 0 0,.int .i64 0,.slice Ao17 y173.length co17,.slice none 0 0,.slice none 0 0,.slice none 0 0,.slice none 0 0,.slice none 0 0,.slice none 0 0,.int .i64 0] 31 (0,0)) (by (with_reducible repeat (first | refine blk_drewN ?_ _ | refine blk_drew ?_ | refine blk_alloc ?_ _));exact BK176.out) hb)
         have n10_ := Aside0.mk (below_step (by repeat (first | (with_reducible first | exact HB.out | apply below_alloc | apply pw_below_drewN | apply below_drew1 | refine below_set ?_ GE176.out) | exact HB.out)) hb)
         clear HO175
         clear HO179
         clear HO182
         clear HO185
         clear HO188
         clear HO191
         clear HO195
         clear HO202
         clear BK176
         clear HB
         have HO175 := n0_
         have HO179 := n1_
         have HO182 := n2_
         have HO185 := n3_
         have HO188 := n4_
         have HO191 := n5_
         have HO195 := n6_
         have HO202 := n7_
         have HO199 := n8_
         have BK176 := n9_
         have HB := n10_
         clear n0_ n1_ n2_ n3_ n4_ n5_ n6_ n7_ n8_ n9_ n10_
         (try clear hb)
         (try clear hb2)
         (try clear hk)
         (try clear hi)
         (try clear ho0)
         obtain ⟨Ao40,co40,eo40⟩ := Kd.R_slice HO199.out
         (first | subst eo40 | (injection eo40 with f1_ f2_ f3_;have f4_ := f1_.symm;have f5_ := f3_.symm;clear f1_ f2_ f3_;subst f4_;subst f5_))
         obtain ⟨Ao41,co41,eo41⟩ := Kd.R_slice HO202.out
         (first | subst eo41 | (injection eo41 with f1_ f2_ f3_;have f4_ := f1_.symm;have f5_ := f3_.symm;clear f1_ f2_ f3_;subst f4_;subst f5_))
         refine hK.out _ _ ⟨(blk_cell BK176.out 0).trans rfl,(blk_cell BK176.out 1).trans rfl,(blk_cell BK176.out 2).trans rfl,(blk_cell BK176.out 3).trans rfl,(blk_cell BK176.out 4).trans rfl,(blk_cell BK176.out 5).trans rfl,(blk_cell BK176.out 6).trans rfl,(blk_cell BK176.out 7).trans rfl,(blk_cell BK176.out 8).trans rfl,(blk_cell BK176.out 9).trans rfl,(blk_cell BK176.out 10).trans rfl⟩ (fun hHeld => ?_)
         clear hK K
         refine norm_ (a' := ?_) ?_ ?_
         rotate_left
         ·show Act.put _ (some 36) _ = _
          simp only [Act.put,List.setIfInBounds_toArray,List.set_cons_zero,List.set_cons_succ,i64_w,i32_w]
          rfl
         refine one_ (i := 12) (N := some 38) #[true,true,true,true,true,true,true,true,true,true,true,true,true,false,false,false,false,false,false,false,false,false,false,false,false,false,false,false,false,false] rfl rfl (one_of HT_.out (by kernel_rfl)) (by decide) (fun K hK => ?_)
         refine goes_ Try.func12 (by kernel_rfl) rfl #[.slice Ao40 t197.length co40,.slice Ao41 y200.length co41] (by rfl) rfl rfl (by (try simp only [List.map_toArray,List.map_cons,List.map_nil]);first | done | rfl | (simp only [List.length_drop,List.length_take];rfl)) ?_
         with_reducible refine (bourneref37_SameInts.calls k _ _ t197 _ _ y200 true _ ?side1 ?side2 ?side3 ?side4 A7.out).mono ?_
         (case side1 => repeat (first | exact (Kd.R_reads' HO199.out).2.2 | (with_reducible refine Kd.C_alloc ?_ _) | (with_reducible refine Kd.C_drewN ?_ _) | (with_reducible refine Kd.C_drew ?_)))
         (case side2 => exact (Kd.R_reads' HO199.out).2.1)
         (case side3 => repeat (first | exact (Kd.R_reads' HO202.out).2.2 | (with_reducible refine Kd.C_alloc ?_ _) | (with_reducible refine Kd.C_drewN ?_ _) | (with_reducible refine Kd.C_drew ?_)))
         (case side4 => exact (Kd.R_reads' HO202.out).2.1)
         rintro e w' ⟨rfl,⟨nd,rfl⟩⟩
         refine ⟨_,rfl,?_⟩
         refine hK.out _ _ ⟨(blk_cell BK176.out 0).trans rfl,(blk_cell BK176.out 1).trans rfl,(blk_cell BK176.out 2).trans rfl,(blk_cell BK176.out 3).trans rfl,(blk_cell BK176.out 4).trans rfl,(blk_cell BK176.out 5).trans rfl,(blk_cell BK176.out 6).trans rfl,(blk_cell BK176.out 7).trans rfl,(blk_cell BK176.out 8).trans rfl,(blk_cell BK176.out 9).trans rfl,(blk_cell BK176.out 10).trans rfl⟩ (fun hHeld => ?_)
         clear hK K
         refine norm_ (a' := ?_) ?_ ?_
         rotate_left
         ·show Act.put _ (some 38) _ = _
          simp only [Act.put,List.setIfInBounds_toArray,List.set_cons_zero,List.set_cons_succ,i64_w,i32_w]
          rfl
         refine pure_ (i := 13) (N := some 39) (v := ?_) (a' := ?_) #[true,true,true,true,true,true,true,true,true,true,true,true,true,true,false,false,false,false,false,false,false,false,false,false,false,false,false,false,false,false] rfl rfl (any_of HT_.out (by kernel_rfl)) (fun _ _ _ h => h) (Or.inl ⟨by rfl,?_⟩) ?_ ?_
         rotate_left
         ·intro w'
          go_simp
          with_reducible rfl
         rotate_left
         ·simp only [Act.put,List.setIfInBounds_toArray,List.set_cons_zero,List.set_cons_succ,i64_w,i32_w]
          rfl
         refine pure_ (i := 14) (N := some 40) (v := ?_) (a' := ?_) #[true,true,true,true,true,true,true,true,true,true,true,true,true,true,true,false,false,false,false,false,false,false,false,false,false,false,false,false,false,false] rfl rfl (any_of HT_.out (by kernel_rfl)) (fun _ _ _ h => h) (Or.inl ⟨by rfl,?_⟩) ?_ ?_
         rotate_left
         ·intro w'
          go_simp
          with_reducible rfl
         rotate_left
         ·simp only [Act.put,List.setIfInBounds_toArray,List.set_cons_zero,List.set_cons_succ,i64_w,i32_w]
          rfl
         refine take_ (i := 15) (N := some 41) (v := ?_) (a' := ?_) #[true,true,true,true,true,true,true,true,true,true,true,true,true,true,true,true,false,false,false,false,false,false,false,false,false,false,false,false,false,false] rfl rfl (take_ofW HT_.out HW_.out (by kernel_rfl)) (fun _ _ _ h => h) (Or.inl ⟨by rfl,?_⟩) hHeld ?_ ?_
         rotate_left
         ·rintro w' ⟨s0,s1,s2,s3,s4,s5,s6,s7,s8,s9,s10⟩
          go_simp
          with_reducible rfl
         rotate_left
         ·simp only [Act.put,List.setIfInBounds_toArray,List.set_cons_zero,List.set_cons_succ,i64_w,i32_w]
          rfl
         refine one_ (i := 16) (N := some 42) #[true,true,true,true,true,true,true,true,true,true,true,true,true,true,true,true,true,false,false,false,false,false,false,false,false,false,false,false,false,false] rfl rfl (one_of HT_.out (by kernel_rfl)) (by decide) (fun K hK => ?_)
         refine goes_ Try.func13 (by kernel_rfl) rfl #[.agg #[.string (⟨#[]⟩ : ByteArray),.slice none 0 0,.int .i64 0,.slice Ao17 y173.length co17,.slice none 0 0,.slice none 0 0,.slice none 0 0,.slice none 0 0,.slice none 0 0,.slice none 0 0,.int .i64 0],.int .i64 3] (by rfl) rfl rfl (by (try simp only [List.map_toArray,List.map_cons,List.map_nil]);first | done | rfl | (simp only [List.length_drop,List.length_take];rfl)) ?_
         refine (allot_Reach.calls k (⟨#[]⟩ : ByteArray) _ _ ([] : List ByteArray) 0 _ _ y173 _ _ ([] : List (S98)) _ _ ([] : List (S100)) _ _ ([] : List (S102)) _ _ ([] : List (S104)) _ _ ([] : List (S106)) _ _ ([] : List Int) 0 3 t204 _ ?side1 ?side2 ?side3 ?side4 ?side5 ?side6 ?side7 ?side8 ?side9 ?side10 ?side11 ?side12 ?side13 ?side14 ?side15 ?side16 A9.out).mono ?_
         (case side1 => exact Kd.C_nil _ _)
         (case side2 => exact Nat.le_refl _)
         (case side3 => repeat (first | exact (Kd.S_reads' HO175.out).2.2 | (with_reducible refine Kd.C_alloc ?_ _) | (with_reducible refine Kd.C_drewN ?_ _) | (with_reducible refine Kd.C_drew ?_)))
         (case side4 => exact (Kd.S_reads' HO175.out).2.1)
         (case side5 => exact Kd.C_nil _ _)
         (case side6 => exact Nat.le_refl _)
         (case side7 => exact Kd.C_nil _ _)
         (case side8 => exact Nat.le_refl _)
         (case side9 => exact Kd.C_nil _ _)
         (case side10 => exact Nat.le_refl _)
         (case side11 => exact Kd.C_nil _ _)
         (case side12 => exact Nat.le_refl _)
         (case side13 => exact Kd.C_nil _ _)
         (case side14 => exact Nat.le_refl _)
         (case side15 => exact Kd.C_nil _ _)
         (case side16 => exact Nat.le_refl _)
         rintro e w42 ⟨v205,rfl,ho0,hb⟩
         refine ⟨_,rfl,?_⟩
         have n0_ := Aside0.mk (Kd.S_elder' (by (with_reducible repeat (first | apply Kd.S_alloc | apply Kd.S_drewN | apply Kd.S_drew));exact HO175.out) (Kd.R_base ho0) hb)
         have n1_ := Aside0.mk (Kd.R_below (by (with_reducible repeat (first | apply Kd.R_alloc | apply Kd.R_drewN | apply Kd.R_drew));exact HO179.out) hb)
         have n2_ := Aside0.mk (Kd.R_elder' (by (with_reducible repeat (first | apply Kd.R_alloc | apply Kd.R_drewN | apply Kd.R_drew));exact HO182.out) (Kd.R_base ho0) hb)
         have n3_ := Aside0.mk (Kd.R_below (by (with_reducible repeat (first | apply Kd.R_alloc | apply Kd.R_drewN | apply Kd.R_drew));exact HO185.out) hb)
         have n4_ := Aside0.mk (Kd.R_elder' (by (with_reducible repeat (first | apply Kd.R_alloc | apply Kd.R_drewN | apply Kd.R_drew));exact HO188.out) (Kd.R_base ho0) hb)
         have n5_ := Aside0.mk (Kd.R_below (by (with_reducible repeat (first | apply Kd.R_alloc | apply Kd.R_drewN | apply Kd.R_drew));exact HO191.out) hb)
         have n6_ := Aside0.mk (Kd.R_elder' (by (with_reducible repeat (first | apply Kd.R_alloc | apply Kd.R_drewN | apply Kd.R_drew));exact HO195.out) (Kd.R_base ho0) hb)
         have n7_ := Aside0.mk (Kd.R_elder' (by (with_reducible repeat (first | apply Kd.R_alloc | apply Kd.R_drewN | apply Kd.R_drew));exact HO202.out) (Kd.R_base ho0) hb)
         have n8_ := Aside0.mk (Kd.R_elder' (by (with_reducible repeat (first | apply Kd.R_alloc | apply Kd.R_drewN | apply Kd.R_drew));exact HO199.out) (Kd.R_base ho0) hb)
         have n9_ := Aside0.mk (Kd.R_lower (Kd.R_new' (Kd.R_new' (Kd.R_new' (Kd.R_new' (Kd.R_new' ho0 (Kd.R_lt (by (with_reducible repeat (first | apply Kd.R_alloc | apply Kd.R_drewN | apply Kd.R_drew));exact HO182.out))) (Kd.R_lt (by (with_reducible repeat (first | apply Kd.R_alloc | apply Kd.R_drewN | apply Kd.R_drew));exact HO188.out))) (Kd.R_lt (by (with_reducible repeat (first | apply Kd.R_alloc | apply Kd.R_drewN | apply Kd.R_drew));exact HO195.out))) (Kd.R_lt (by (with_reducible repeat (first | apply Kd.R_alloc | apply Kd.R_drewN | apply Kd.R_drew));exact HO202.out))) (Kd.R_lt (by (with_reducible repeat (first | apply Kd.R_alloc | apply Kd.R_drewN | apply Kd.R_drew));exact HO199.out))) (below_size (by repeat (first | (with_reducible first | exact HB.out | apply below_alloc | apply pw_below_drewN | apply below_drew1 | refine below_set ?_ GE176.out) | exact HB.out))))
         have n10_ := Aside0.mk (blk_below (g := gb176) (o := .cells #[.string (⟨#[]⟩ : ByteArray),.slice none 0 0,.int .i64 0,.slice Ao17 y173.length co17,.slice none 0 0,.slice none 0 0,.slice none 0 0,.slice none 0 0,.slice none 0 0,.slice none 0 0,.int .i64 0] 31 (0,0)) (by (with_reducible repeat (first | refine blk_drewN ?_ _ | refine blk_drew ?_ | refine blk_alloc ?_ _));exact BK176.out) hb)
         have n11_ := Aside0.mk (below_step (by repeat (first | (with_reducible first | exact HB.out | apply below_alloc | apply pw_below_drewN | apply below_drew1 | refine below_set ?_ GE176.out) | exact HB.out)) hb)
         clear HO175
         clear HO179
         clear HO182
         clear HO185
         clear HO188
         clear HO191
         clear HO195
         clear HO202
         clear HO199
         clear BK176
         clear HB
         have HO175 := n0_
         have HO179 := n1_
         have HO182 := n2_
         have HO185 := n3_
         have HO188 := n4_
         have HO191 := n5_
         have HO195 := n6_
         have HO202 := n7_
         have HO199 := n8_
         have HO206 := n9_
         have BK176 := n10_
         have HB := n11_
         clear n0_ n1_ n2_ n3_ n4_ n5_ n6_ n7_ n8_ n9_ n10_ n11_
         (try clear hb)
         (try clear hb2)
         (try clear hk)
         (try clear hi)
         (try clear ho0)
         obtain ⟨Ao43,co43,eo43⟩ := Kd.R_slice HO206.out
         (first | subst eo43 | (injection eo43 with f1_ f2_ f3_;have f4_ := f1_.symm;have f5_ := f3_.symm;clear f1_ f2_ f3_;subst f4_;subst f5_))
         refine hK.out _ _ ⟨(blk_cell BK176.out 0).trans rfl,(blk_cell BK176.out 1).trans rfl,(blk_cell BK176.out 2).trans rfl,(blk_cell BK176.out 3).trans rfl,(blk_cell BK176.out 4).trans rfl,(blk_cell BK176.out 5).trans rfl,(blk_cell BK176.out 6).trans rfl,(blk_cell BK176.out 7).trans rfl,(blk_cell BK176.out 8).trans rfl,(blk_cell BK176.out 9).trans rfl,(blk_cell BK176.out 10).trans rfl⟩ (fun hHeld => ?_)
         clear hK K
         refine norm_ (a' := ?_) ?_ ?_
         rotate_left
         ·show Act.put _ (some 42) _ = _
          simp only [Act.put,List.setIfInBounds_toArray,List.set_cons_zero,List.set_cons_succ,i64_w,i32_w]
          rfl
         refine pure_ (i := 17) (N := some 43) (v := ?_) (a' := ?_) #[true,true,true,true,true,true,true,true,true,true,true,true,true,true,true,true,true,true,false,false,false,false,false,false,false,false,false,false,false,false] rfl rfl (any_of HT_.out (by kernel_rfl)) (fun _ _ _ h => h) (Or.inl ⟨by rfl,?_⟩) ?_ ?_
         rotate_left
         ·intro w'
          go_simp
          with_reducible rfl
         rotate_left
         ·simp only [Act.put,List.setIfInBounds_toArray,List.set_cons_zero,List.set_cons_succ,i64_w,i32_w]
          rfl
         refine pure_ (i := 18) (N := some 44) (v := ?_) (a' := ?_) #[true,true,true,true,true,true,true,true,true,true,true,true,true,true,true,true,true,true,true,false,false,false,false,false,false,false,false,false,false,false] rfl rfl (any_of HT_.out (by kernel_rfl)) (fun _ _ _ h => h) (Or.inl ⟨by rfl,?_⟩) ?_ ?_
         rotate_left
         ·intro w'
          go_simp
          with_reducible rfl
         rotate_left
         ·simp only [Act.put,List.setIfInBounds_toArray,List.set_cons_zero,List.set_cons_succ,i64_w,i32_w]
          rfl
         refine pure_ (i := 19) (N := some 45) (v := ?_) (a' := ?_) #[true,true,true,true,true,true,true,true,true,true,true,true,true,true,true,true,true,true,true,true,false,false,false,false,false,false,false,false,false,false] rfl rfl (any_of HT_.out (by kernel_rfl)) (fun _ _ _ h => h) (Or.inl ⟨by rfl,?_⟩) ?_ ?_
         rotate_left
         ·intro w'
          go_simp
          with_reducible rfl
         rotate_left
         ·simp only [Act.put,List.setIfInBounds_toArray,List.set_cons_zero,List.set_cons_succ,i64_w,i32_w]
          rfl
         refine pure_ (i := 20) (N := some 46) (v := ?_) (a' := ?_) #[true,true,true,true,true,true,true,true,true,true,true,true,true,true,true,true,true,true,true,true,true,false,false,false,false,false,false,false,false,false] rfl rfl (any_of HT_.out (by kernel_rfl)) (fun _ _ _ h => h) (Or.inl ⟨by rfl,?_⟩) ?_ ?_
         rotate_left
         ·intro w'
          go_simp
          with_reducible rfl
         rotate_left
         ·simp only [Act.put,List.setIfInBounds_toArray,List.set_cons_zero,List.set_cons_succ,i64_w,i32_w]
          rfl
         refine take_ (i := 21) (N := some 47) (v := ?_) (a' := ?_) #[true,true,true,true,true,true,true,true,true,true,true,true,true,true,true,true,true,true,true,true,true,true,false,false,false,false,false,false,false,false] rfl rfl (take_ofW HT_.out HW_.out (by kernel_rfl)) (fun _ _ _ h => h) (Or.inl ⟨by rfl,?_⟩) hHeld ?_ ?_
         rotate_left
         ·rintro w' ⟨s0,s1,s2,s3,s4,s5,s6,s7,s8,s9,s10⟩
          go_simp
          with_reducible rfl
         rotate_left
         ·simp only [Act.put,List.setIfInBounds_toArray,List.set_cons_zero,List.set_cons_succ,i64_w,i32_w]
          rfl
         refine pure_ (i := 22) (N := some 48) (v := ?_) (a' := ?_) #[true,true,true,true,true,true,true,true,true,true,true,true,true,true,true,true,true,true,true,true,true,true,true,false,false,false,false,false,false,false] rfl rfl (any_of HT_.out (by kernel_rfl)) (fun _ _ _ h => h) (Or.inl ⟨by rfl,?_⟩) ?_ ?_
         rotate_left
         ·intro w'
          go_simp
          with_reducible rfl
         rotate_left
         ·simp only [Act.put,List.setIfInBounds_toArray,List.set_cons_zero,List.set_cons_succ,i64_w,i32_w]
          rfl
         refine pure_ (i := 23) (N := some 49) (v := ?_) (a' := ?_) #[true,true,true,true,true,true,true,true,true,true,true,true,true,true,true,true,true,true,true,true,true,true,true,true,false,false,false,false,false,false] rfl rfl (any_of HT_.out (by kernel_rfl)) (fun _ _ _ h => h) (Or.inl ⟨by rfl,?_⟩) ?_ ?_
         rotate_left
         ·intro w'
          go_simp
          with_reducible rfl
         rotate_left
         ·simp only [Act.put,List.setIfInBounds_toArray,List.set_cons_zero,List.set_cons_succ,i64_w,i32_w]
          rfl
         refine pure_ (i := 24) (N := some 50) (v := .slice A49 y207.length c49) (a' := ?_) #[true,true,true,true,true,true,true,true,true,true,true,true,true,true,true,true,true,true,true,true,true,true,true,true,true,false,false,false,false,false] rfl rfl (any_of HT_.out (by kernel_rfl)) (fun _ _ _ h => h) (Or.inl ⟨by rfl,?_⟩) ?_ ?_
         ·intro w'
          refine Eq.trans (b := ?_) (by go_simp;with_reducible rfl) ?_
          rw [hA49,hc49,hy49]
          rfl
         rotate_left
         ·simp only [Act.put,List.setIfInBounds_toArray,List.set_cons_zero,List.set_cons_succ,i64_w,i32_w]
          rfl
         refine two_ (i := 25) (j := 26) (Ni := some 51) (Nj := some 52) #[true,true,true,true,true,true,true,true,true,true,true,true,true,true,true,true,true,true,true,true,true,true,true,true,true,true,false,false,false,false] #[true,true,true,true,true,true,true,true,true,true,true,true,true,true,true,true,true,true,true,true,true,true,true,true,true,false,true,false,false,false] rfl rfl rfl rfl (two_of HT_.out (by kernel_rfl)) (by decide) (by decide) (fun K hK => ?_) (fun K hK => ?_)
         ·skip
          refine goes_ Try.func15 (by kernel_rfl) rfl #[.agg #[.string (⟨#[]⟩ : ByteArray),.slice none 0 0,.int .i64 0,.slice Ao17 y173.length co17,.slice none 0 0,.slice none 0 0,.slice none 0 0,.slice none 0 0,.slice none 0 0,.slice none 0 0,.int .i64 0],.slice Ao25 y177.length co25,(.slice A49 y207.length c49)] (by rfl) rfl rfl (by (try simp only [List.map_toArray,List.map_cons,List.map_nil]);first | done | rfl | (simp only [List.length_drop,List.length_take];rfl)) ?_
          refine (allot_Back.calls k (⟨#[]⟩ : ByteArray) _ _ ([] : List ByteArray) 0 _ _ y173 _ _ ([] : List (S98)) _ _ ([] : List (S100)) _ _ ([] : List (S102)) _ _ ([] : List (S104)) _ _ ([] : List (S106)) _ _ ([] : List Int) 0 _ _ y177 _ _ y207 t211 _ ?side1 ?side2 ?side3 ?side4 ?side5 ?side6 ?side7 ?side8 ?side9 ?side10 ?side11 ?side12 ?side13 ?side14 ?side15 ?side16 ?side17 ?side18 ?side19 ?side20 A13.out).mono ?_
          (case side1 => exact Kd.C_nil _ _)
          (case side2 => exact Nat.le_refl _)
          (case side3 => repeat (first | exact (Kd.S_reads' HO175.out).2.2 | (with_reducible refine Kd.C_alloc ?_ _) | (with_reducible refine Kd.C_drewN ?_ _) | (with_reducible refine Kd.C_drew ?_)))
          (case side4 => exact (Kd.S_reads' HO175.out).2.1)
          (case side5 => exact Kd.C_nil _ _)
          (case side6 => exact Nat.le_refl _)
          (case side7 => exact Kd.C_nil _ _)
          (case side8 => exact Nat.le_refl _)
          (case side9 => exact Kd.C_nil _ _)
          (case side10 => exact Nat.le_refl _)
          (case side11 => exact Kd.C_nil _ _)
          (case side12 => exact Nat.le_refl _)
          (case side13 => exact Kd.C_nil _ _)
          (case side14 => exact Nat.le_refl _)
          (case side15 => exact Kd.C_nil _ _)
          (case side16 => exact Nat.le_refl _)
          (case side17 => repeat (first | exact (Kd.R_reads' HO179.out).2.2 | (with_reducible refine Kd.C_alloc ?_ _) | (with_reducible refine Kd.C_drewN ?_ _) | (with_reducible refine Kd.C_drew ?_)))
          (case side18 => exact (Kd.R_reads' HO179.out).2.1)
          (case side19 => exact (by have hz_ := Kd.C_mid (lo := (1 : Int).toNat) (hi := (2 : Int).toNat) (c := co30) (Kd.R_reads' HO185.out).2.2 (by omega) (by omega) (Kd.R_reads' HO185.out).2.1;rw [show ((_ : List S47).take (2 : Int).toNat).drop (1 : Int).toNat = y207 from Ny207.out.symm] at hz_;rw [hA49];exact hz_))
          (case side20 => exact HC210.out)
          rintro e w44 ⟨v212,rfl,ho0,hb⟩
          refine ⟨_,rfl,?_⟩
          have n0_ := Aside0.mk (Kd.S_elder' (by (with_reducible repeat (first | apply Kd.S_alloc | apply Kd.S_drewN | apply Kd.S_drew));exact HO175.out) (Kd.R_base ho0) hb)
          have n1_ := Aside0.mk (Kd.R_below (by (with_reducible repeat (first | apply Kd.R_alloc | apply Kd.R_drewN | apply Kd.R_drew));exact HO179.out) hb)
          have n2_ := Aside0.mk (Kd.R_elder' (by (with_reducible repeat (first | apply Kd.R_alloc | apply Kd.R_drewN | apply Kd.R_drew));exact HO182.out) (Kd.R_base ho0) hb)
          have n3_ := Aside0.mk (Kd.R_below (by (with_reducible repeat (first | apply Kd.R_alloc | apply Kd.R_drewN | apply Kd.R_drew));exact HO185.out) hb)
          have n4_ := Aside0.mk (Kd.R_elder' (by (with_reducible repeat (first | apply Kd.R_alloc | apply Kd.R_drewN | apply Kd.R_drew));exact HO188.out) (Kd.R_base ho0) hb)
          have n5_ := Aside0.mk (Kd.R_below (by (with_reducible repeat (first | apply Kd.R_alloc | apply Kd.R_drewN | apply Kd.R_drew));exact HO191.out) hb)
          have n6_ := Aside0.mk (Kd.R_elder' (by (with_reducible repeat (first | apply Kd.R_alloc | apply Kd.R_drewN | apply Kd.R_drew));exact HO195.out) (Kd.R_base ho0) hb)
          have n7_ := Aside0.mk (Kd.R_elder' (by (with_reducible repeat (first | apply Kd.R_alloc | apply Kd.R_drewN | apply Kd.R_drew));exact HO202.out) (Kd.R_base ho0) hb)
          have n8_ := Aside0.mk (Kd.R_elder' (by (with_reducible repeat (first | apply Kd.R_alloc | apply Kd.R_drewN | apply Kd.R_drew));exact HO199.out) (Kd.R_base ho0) hb)
          have n9_ := Aside0.mk (Kd.R_elder' (by (with_reducible repeat (first | apply Kd.R_alloc | apply Kd.R_drewN | apply Kd.R_drew));exact HO206.out) (Kd.R_base ho0) hb)
          have n10_ := Aside0.mk (Kd.R_lower (Kd.R_new' (Kd.R_new' (Kd.R_new' (Kd.R_new' (Kd.R_new' (Kd.R_new' ho0 (Kd.R_lt (by (with_reducible repeat (first | apply Kd.R_alloc | apply Kd.R_drewN | apply Kd.R_drew));exact HO182.out))) (Kd.R_lt (by (with_reducible repeat (first | apply Kd.R_alloc | apply Kd.R_drewN | apply Kd.R_drew));exact HO188.out))) (Kd.R_lt (by (with_reducible repeat (first | apply Kd.R_alloc | apply Kd.R_drewN | apply Kd.R_drew));exact HO195.out))) (Kd.R_lt (by (with_reducible repeat (first | apply Kd.R_alloc | apply Kd.R_drewN | apply Kd.R_drew));exact HO202.out))) (Kd.R_lt (by (with_reducible repeat (first | apply Kd.R_alloc | apply Kd.R_drewN | apply Kd.R_drew));exact HO199.out))) (Kd.R_lt (by (with_reducible repeat (first | apply Kd.R_alloc | apply Kd.R_drewN | apply Kd.R_drew));exact HO206.out))) (below_size (by repeat (first | (with_reducible first | exact HB.out | apply below_alloc | apply pw_below_drewN | apply below_drew1 | refine below_set ?_ GE176.out) | exact HB.out))))
          have n11_ := Aside0.mk (blk_below (g := gb176) (o := .cells #[.string (⟨#[]⟩ : ByteArray),.slice none 0 0,.int .i64 0,.slice Ao17 y173.length co17,.slice none 0 0,.slice none 0 0,.slice none 0 0,.slice none 0 0,.slice none 0 0,.slice none 0 0,.int .i64 0] 31 (0,0)) (by (with_reducible repeat (first | refine blk_drewN ?_ _ | refine blk_drew ?_ | refine blk_alloc ?_ _));exact BK176.out) hb)
          have n12_ := Aside0.mk (below_step (by repeat (first | (with_reducible first | exact HB.out | apply below_alloc | apply pw_below_drewN | apply below_drew1 | refine below_set ?_ GE176.out) | exact HB.out)) hb)
          clear HO175
          clear HO179
          clear HO182
          clear HO185
          clear HO188
          clear HO191
          clear HO195
          clear HO202
          clear HO199
          clear HO206
          clear BK176
          clear HB
          have HO175 := n0_
          have HO179 := n1_
          have HO182 := n2_
          have HO185 := n3_
          have HO188 := n4_
          have HO191 := n5_
          have HO195 := n6_
          have HO202 := n7_
          have HO199 := n8_
          have HO206 := n9_
          have HO213 := n10_
          have BK176 := n11_
          have HB := n12_
          clear n0_ n1_ n2_ n3_ n4_ n5_ n6_ n7_ n8_ n9_ n10_ n11_ n12_
          (try clear hb)
          (try clear hb2)
          (try clear hk)
          (try clear hi)
          (try clear ho0)
          refine hK.out _ _ ⟨(blk_cell BK176.out 0).trans rfl,(blk_cell BK176.out 1).trans rfl,(blk_cell BK176.out 2).trans rfl,(blk_cell BK176.out 3).trans rfl,(blk_cell BK176.out 4).trans rfl,(blk_cell BK176.out 5).trans rfl,(blk_cell BK176.out 6).trans rfl,(blk_cell BK176.out 7).trans rfl,(blk_cell BK176.out 8).trans rfl,(blk_cell BK176.out 9).trans rfl,(blk_cell BK176.out 10).trans rfl⟩ (fun hHeld => ?_)
          clear hK K
          refine norm_ (a' := ?_) ?_ ?_
          rotate_left
          ·show Act.put _ (some 51) _ = _
           simp only [Act.put,List.setIfInBounds_toArray,List.set_cons_zero,List.set_cons_succ,i64_w,i32_w]
           rfl
          refine one_ (i := 26) (N := some 52) #[true,true,true,true,true,true,true,true,true,true,true,true,true,true,true,true,true,true,true,true,true,true,true,true,true,true,true,false,false,false] rfl rfl (one_of HT_.out (by kernel_rfl)) (by decide) (fun K hK => ?_)
          refine Kd.R_lit_step (Kd.int .i64) _ 3 ?hg (N := 52) ?hd (xs := ([0,2,0] : List Int)) (inner := [.int .i64 0,.int .i64 2,.int .i64 0]) (ok := fun _ => True) (okp := fun _ => True) ?hr ?hp (fun _ hk => hk) trivial (Below.refl _ _) (Nat.le_refl _) (by simp) ?_;(case hd => rfl);(case hg => rfl);(case hr => first | (go_simp;done) | (go_simp;rfl));(case hp => exact (Reps.one (show Kd.M (Kd.int .i64) _ _ _ 0 [.int .i64 0] from rfl) (Reps.one (show Kd.M (Kd.int .i64) _ _ _ 2 [.int .i64 2] from rfl) (Reps.one (show Kd.M (Kd.int .i64) _ _ _ 0 [.int .i64 0] from rfl) (Reps.none _ _)))))
          intro v215 w45 ho46 hb hg_ hnew_
          clear hg_ hnew_
          (first | rw [← Ny214.out] at ho46 | (simp only [Int.reduceToNat] at ho46;rw [← Ny214.out] at ho46))
          have n0_ := Aside0.mk (Kd.S_elder' (by (with_reducible repeat (first | apply Kd.S_alloc | apply Kd.S_drewN | apply Kd.S_drew));exact HO175.out) (Kd.R_base ho46) hb)
          have n1_ := Aside0.mk (Kd.R_below (by (with_reducible repeat (first | apply Kd.R_alloc | apply Kd.R_drewN | apply Kd.R_drew));exact HO179.out) hb)
          have n2_ := Aside0.mk (Kd.R_elder' (by (with_reducible repeat (first | apply Kd.R_alloc | apply Kd.R_drewN | apply Kd.R_drew));exact HO182.out) (Kd.R_base ho46) hb)
          have n3_ := Aside0.mk (Kd.R_below (by (with_reducible repeat (first | apply Kd.R_alloc | apply Kd.R_drewN | apply Kd.R_drew));exact HO185.out) hb)
          have n4_ := Aside0.mk (Kd.R_elder' (by (with_reducible repeat (first | apply Kd.R_alloc | apply Kd.R_drewN | apply Kd.R_drew));exact HO188.out) (Kd.R_base ho46) hb)
          have n5_ := Aside0.mk (Kd.R_below (by (with_reducible repeat (first | apply Kd.R_alloc | apply Kd.R_drewN | apply Kd.R_drew));exact HO191.out) hb)
          have n6_ := Aside0.mk (Kd.R_elder' (by (with_reducible repeat (first | apply Kd.R_alloc | apply Kd.R_drewN | apply Kd.R_drew));exact HO195.out) (Kd.R_base ho46) hb)
          have n7_ := Aside0.mk (Kd.R_elder' (by (with_reducible repeat (first | apply Kd.R_alloc | apply Kd.R_drewN | apply Kd.R_drew));exact HO202.out) (Kd.R_base ho46) hb)
          have n8_ := Aside0.mk (Kd.R_elder' (by (with_reducible repeat (first | apply Kd.R_alloc | apply Kd.R_drewN | apply Kd.R_drew));exact HO199.out) (Kd.R_base ho46) hb)
          have n9_ := Aside0.mk (Kd.R_elder' (by (with_reducible repeat (first | apply Kd.R_alloc | apply Kd.R_drewN | apply Kd.R_drew));exact HO206.out) (Kd.R_base ho46) hb)
          have n10_ := Aside0.mk (Kd.R_elder' (by (with_reducible repeat (first | apply Kd.R_alloc | apply Kd.R_drewN | apply Kd.R_drew));exact HO213.out) (Kd.R_base ho46) hb)
          have n11_ := Aside0.mk (Kd.R_lower (Kd.R_new' (Kd.R_new' (Kd.R_new' (Kd.R_new' (Kd.R_new' (Kd.R_new' (Kd.R_new' ho46 (Kd.R_lt (by (with_reducible repeat (first | apply Kd.R_alloc | apply Kd.R_drewN | apply Kd.R_drew));exact HO182.out))) (Kd.R_lt (by (with_reducible repeat (first | apply Kd.R_alloc | apply Kd.R_drewN | apply Kd.R_drew));exact HO188.out))) (Kd.R_lt (by (with_reducible repeat (first | apply Kd.R_alloc | apply Kd.R_drewN | apply Kd.R_drew));exact HO195.out))) (Kd.R_lt (by (with_reducible repeat (first | apply Kd.R_alloc | apply Kd.R_drewN | apply Kd.R_drew));exact HO202.out))) (Kd.R_lt (by (with_reducible repeat (first | apply Kd.R_alloc | apply Kd.R_drewN | apply Kd.R_drew));exact HO199.out))) (Kd.R_lt (by (with_reducible repeat (first | apply Kd.R_alloc | apply Kd.R_drewN | apply Kd.R_drew));exact HO206.out))) (Kd.R_lt (by (with_reducible repeat (first | apply Kd.R_alloc | apply Kd.R_drewN | apply Kd.R_drew));exact HO213.out))) (below_size (by repeat (first | (with_reducible first | exact HB.out | apply below_alloc | apply pw_below_drewN | apply below_drew1 | refine below_set ?_ GE176.out) | exact HB.out))))
          have n12_ := Aside0.mk (blk_below (g := gb176) (o := .cells #[.string (⟨#[]⟩ : ByteArray),.slice none 0 0,.int .i64 0,.slice Ao17 y173.length co17,.slice none 0 0,.slice none 0 0,.slice none 0 0,.slice none 0 0,.slice none 0 0,.slice none 0 0,.int .i64 0] 31 (0,0)) (by (with_reducible repeat (first | refine blk_drewN ?_ _ | refine blk_drew ?_ | refine blk_alloc ?_ _));exact BK176.out) hb)
          have n13_ := Aside0.mk (below_step (by repeat (first | (with_reducible first | exact HB.out | apply below_alloc | apply pw_below_drewN | apply below_drew1 | refine below_set ?_ GE176.out) | exact HB.out)) hb)
          clear HO175
          clear HO179
          clear HO182
          clear HO185
          clear HO188
          clear HO191
          clear HO195
          clear HO202
          clear HO199
          clear HO206
          clear HO213
          clear BK176
          clear HB
          have HO175 := n0_
          have HO179 := n1_
          have HO182 := n2_
          have HO185 := n3_
          have HO188 := n4_
          have HO191 := n5_
          have HO195 := n6_
          have HO202 := n7_
          have HO199 := n8_
          have HO206 := n9_
          have HO213 := n10_
          have HO216 := n11_
          have BK176 := n12_
          have HB := n13_
          clear n0_ n1_ n2_ n3_ n4_ n5_ n6_ n7_ n8_ n9_ n10_ n11_ n12_ n13_
          clear hb ho46
          refine hK.out _ _ ⟨(blk_cell BK176.out 0).trans rfl,(blk_cell BK176.out 1).trans rfl,(blk_cell BK176.out 2).trans rfl,(blk_cell BK176.out 3).trans rfl,(blk_cell BK176.out 4).trans rfl,(blk_cell BK176.out 5).trans rfl,(blk_cell BK176.out 6).trans rfl,(blk_cell BK176.out 7).trans rfl,(blk_cell BK176.out 8).trans rfl,(blk_cell BK176.out 9).trans rfl,(blk_cell BK176.out 10).trans rfl⟩ (fun hHeld => ?_)
          clear hK K
          refine norm_ (a' := ?_) ?_ ?_
          rotate_left
          ·show Act.put _ (some 52) _ = _
           simp only [Act.put,List.setIfInBounds_toArray,List.set_cons_zero,List.set_cons_succ,i64_w,i32_w]
           rfl
          exact norm_ (by simp only [putAll,Act.put,List.setIfInBounds_toArray,List.set_cons_zero,List.set_cons_succ]) (hCont (.slice Ao40 t197.length co40,.slice Ao41 y200.length co41,.slice Ao43 t204.length co43,v212,v215) _ ⟨hHeld,(by (with_reducible repeat (first | apply Kd.S_alloc | apply Kd.S_drewN | apply Kd.S_drew));exact Kd.S_mono HO175.out (fun _ hk => ⟨hk.1.1.1.1.1.1.1.2,⟨hk.1.1.1.1.1.1.2,⟨hk.1.1.1.1.1.2,⟨hk.1.1.1.2,⟨hk.1.1.1.1.2,⟨hk.1.1.2,⟨hk.1.2,hk.2⟩⟩⟩⟩⟩⟩⟩)),(by (with_reducible repeat (first | apply Kd.R_alloc | apply Kd.R_drewN | apply Kd.R_drew));exact HO179.out),(by (with_reducible repeat (first | apply Kd.R_alloc | apply Kd.R_drewN | apply Kd.R_drew));exact Kd.R_mono HO182.out (fun _ hk => ⟨hk.1.1.1.1.1.1.2,⟨hk.1.1.1.1.1.2,⟨hk.1.1.1.2,⟨hk.1.1.1.1.2,⟨hk.1.1.2,⟨hk.1.2,hk.2⟩⟩⟩⟩⟩⟩)),(by (with_reducible repeat (first | apply Kd.R_alloc | apply Kd.R_drewN | apply Kd.R_drew));exact Kd.R_mono HO185.out (fun _ hk => hk.2)),(by (with_reducible repeat (first | apply Kd.R_alloc | apply Kd.R_drewN | apply Kd.R_drew));exact Kd.R_mono HO188.out (fun _ hk => ⟨hk.1.1.1.1.1.1.2,⟨hk.1.1.1.1.1.2,⟨hk.1.1.1.2,⟨hk.1.1.1.1.2,⟨hk.1.1.2,⟨hk.1.2,hk.2⟩⟩⟩⟩⟩⟩)),(by (with_reducible repeat (first | apply Kd.R_alloc | apply Kd.R_drewN | apply Kd.R_drew));exact Kd.R_mono HO191.out (fun _ hk => hk.2)),(by (with_reducible repeat (first | apply Kd.R_alloc | apply Kd.R_drewN | apply Kd.R_drew));exact Kd.R_mono HO195.out (fun _ hk => ⟨hk.1.1.1.1.1.1.2,⟨hk.1.1.1.1.1.2,⟨hk.1.1.1.2,⟨hk.1.1.1.1.2,⟨hk.1.1.2,⟨hk.1.2,hk.2⟩⟩⟩⟩⟩⟩)),(by (with_reducible repeat (first | apply Kd.R_alloc | apply Kd.R_drewN | apply Kd.R_drew));exact Kd.R_mono HO199.out (fun _ hk => ⟨hk.1.1.1.1.1.1.2,⟨hk.1.1.1.1.1.2,⟨hk.1.1.1.1.2,⟨hk.1.1.1.2,⟨hk.1.1.2,⟨hk.1.2,hk.2⟩⟩⟩⟩⟩⟩)),(by (with_reducible repeat (first | apply Kd.R_alloc | apply Kd.R_drewN | apply Kd.R_drew));exact Kd.R_mono HO202.out (fun _ hk => ⟨hk.1.1.1.1.1.1.2,⟨hk.1.1.1.1.1.2,⟨hk.1.1.1.1.2,⟨hk.1.1.1.2,⟨hk.1.1.2,⟨hk.1.2,hk.2⟩⟩⟩⟩⟩⟩)),(by (with_reducible repeat (first | apply Kd.R_alloc | apply Kd.R_drewN | apply Kd.R_drew));exact Kd.R_mono HO206.out (fun _ hk => ⟨hk.1.1.1.1.1.1.2,⟨hk.1.1.1.1.1.2,⟨hk.1.1.1.1.2,⟨hk.1.1.2,⟨hk.1.1.1.2,⟨hk.1.2,hk.2⟩⟩⟩⟩⟩⟩)),(by (with_reducible repeat (first | apply Kd.R_alloc | apply Kd.R_drewN | apply Kd.R_drew));exact Kd.R_mono HO213.out (fun _ hk => ⟨hk.1.1.1.1.1.1.2,⟨hk.1.1.1.1.1.2,⟨hk.1.1.1.1.2,⟨hk.1.1.2,⟨hk.1.1.1.2,⟨hk.1.2,hk.2⟩⟩⟩⟩⟩⟩)),(by (with_reducible repeat (first | apply Kd.R_alloc | apply Kd.R_drewN | apply Kd.R_drew));exact Kd.R_mono HO216.out (fun _ hk => ⟨hk.1.1.1.1.1.1.2,⟨hk.1.1.1.1.1.2,⟨hk.1.1.1.1.2,⟨hk.1.1.2,⟨hk.1.1.1.2,⟨hk.1.2,hk.2⟩⟩⟩⟩⟩⟩)),(by (with_reducible repeat (first | refine blk_drewN ?_ _ | refine blk_drew ?_ | refine blk_alloc ?_ _));exact BK176.out),(by repeat (first | (with_reducible first | exact HB.out | apply below_alloc | apply pw_below_drewN | apply below_drew1 | refine below_set ?_ GE176.out) | exact HB.out))⟩)
         ·skip
          refine Kd.R_lit_step (Kd.int .i64) _ 3 ?hg (N := 52) ?hd (xs := ([0,2,0] : List Int)) (inner := [.int .i64 0,.int .i64 2,.int .i64 0]) (ok := fun _ => True) (okp := fun _ => True) ?hr ?hp (fun _ hk => hk) trivial (Below.refl _ _) (Nat.le_refl _) (by simp) ?_;(case hd => rfl);(case hg => rfl);(case hr => first | (go_simp;done) | (go_simp;rfl));(case hp => exact (Reps.one (show Kd.M (Kd.int .i64) _ _ _ 0 [.int .i64 0] from rfl) (Reps.one (show Kd.M (Kd.int .i64) _ _ _ 2 [.int .i64 2] from rfl) (Reps.one (show Kd.M (Kd.int .i64) _ _ _ 0 [.int .i64 0] from rfl) (Reps.none _ _)))))
          intro v215 w44 ho45 hb hg_ hnew_
          clear hg_ hnew_
          (first | rw [← Ny214.out] at ho45 | (simp only [Int.reduceToNat] at ho45;rw [← Ny214.out] at ho45))
          have n0_ := Aside0.mk (Kd.S_elder' (by (with_reducible repeat (first | apply Kd.S_alloc | apply Kd.S_drewN | apply Kd.S_drew));exact HO175.out) (Kd.R_base ho45) hb)
          have n1_ := Aside0.mk (Kd.R_below (by (with_reducible repeat (first | apply Kd.R_alloc | apply Kd.R_drewN | apply Kd.R_drew));exact HO179.out) hb)
          have n2_ := Aside0.mk (Kd.R_elder' (by (with_reducible repeat (first | apply Kd.R_alloc | apply Kd.R_drewN | apply Kd.R_drew));exact HO182.out) (Kd.R_base ho45) hb)
          have n3_ := Aside0.mk (Kd.R_below (by (with_reducible repeat (first | apply Kd.R_alloc | apply Kd.R_drewN | apply Kd.R_drew));exact HO185.out) hb)
          have n4_ := Aside0.mk (Kd.R_elder' (by (with_reducible repeat (first | apply Kd.R_alloc | apply Kd.R_drewN | apply Kd.R_drew));exact HO188.out) (Kd.R_base ho45) hb)
          have n5_ := Aside0.mk (Kd.R_below (by (with_reducible repeat (first | apply Kd.R_alloc | apply Kd.R_drewN | apply Kd.R_drew));exact HO191.out) hb)
          have n6_ := Aside0.mk (Kd.R_elder' (by (with_reducible repeat (first | apply Kd.R_alloc | apply Kd.R_drewN | apply Kd.R_drew));exact HO195.out) (Kd.R_base ho45) hb)
          have n7_ := Aside0.mk (Kd.R_elder' (by (with_reducible repeat (first | apply Kd.R_alloc | apply Kd.R_drewN | apply Kd.R_drew));exact HO202.out) (Kd.R_base ho45) hb)
          have n8_ := Aside0.mk (Kd.R_elder' (by (with_reducible repeat (first | apply Kd.R_alloc | apply Kd.R_drewN | apply Kd.R_drew));exact HO199.out) (Kd.R_base ho45) hb)
          have n9_ := Aside0.mk (Kd.R_elder' (by (with_reducible repeat (first | apply Kd.R_alloc | apply Kd.R_drewN | apply Kd.R_drew));exact HO206.out) (Kd.R_base ho45) hb)
          have n10_ := Aside0.mk (Kd.R_lower (Kd.R_new' (Kd.R_new' (Kd.R_new' (Kd.R_new' (Kd.R_new' (Kd.R_new' ho45 (Kd.R_lt (by (with_reducible repeat (first | apply Kd.R_alloc | apply Kd.R_drewN | apply Kd.R_drew));exact HO182.out))) (Kd.R_lt (by (with_reducible repeat (first | apply Kd.R_alloc | apply Kd.R_drewN | apply Kd.R_drew));exact HO188.out))) (Kd.R_lt (by (with_reducible repeat (first | apply Kd.R_alloc | apply Kd.R_drewN | apply Kd.R_drew));exact HO195.out))) (Kd.R_lt (by (with_reducible repeat (first | apply Kd.R_alloc | apply Kd.R_drewN | apply Kd.R_drew));exact HO202.out))) (Kd.R_lt (by (with_reducible repeat (first | apply Kd.R_alloc | apply Kd.R_drewN | apply Kd.R_drew));exact HO199.out))) (Kd.R_lt (by (with_reducible repeat (first | apply Kd.R_alloc | apply Kd.R_drewN | apply Kd.R_drew));exact HO206.out))) (below_size (by repeat (first | (with_reducible first | exact HB.out | apply below_alloc | apply pw_below_drewN | apply below_drew1 | refine below_set ?_ GE176.out) | exact HB.out))))
          have n11_ := Aside0.mk (blk_below (g := gb176) (o := .cells #[.string (⟨#[]⟩ : ByteArray),.slice none 0 0,.int .i64 0,.slice Ao17 y173.length co17,.slice none 0 0,.slice none 0 0,.slice none 0 0,.slice none 0 0,.slice none 0 0,.slice none 0 0,.int .i64 0] 31 (0,0)) (by (with_reducible repeat (first | refine blk_drewN ?_ _ | refine blk_drew ?_ | refine blk_alloc ?_ _));exact BK176.out) hb)
          have n12_ := Aside0.mk (below_step (by repeat (first | (with_reducible first | exact HB.out | apply below_alloc | apply pw_below_drewN | apply below_drew1 | refine below_set ?_ GE176.out) | exact HB.out)) hb)
          clear HO175
          clear HO179
          clear HO182
          clear HO185
          clear HO188
          clear HO191
          clear HO195
          clear HO202
          clear HO199
          clear HO206
          clear BK176
          clear HB
          have HO175 := n0_
          have HO179 := n1_
          have HO182 := n2_
          have HO185 := n3_
          have HO188 := n4_
          have HO191 := n5_
          have HO195 := n6_
          have HO202 := n7_
          have HO199 := n8_
          have HO206 := n9_
          have HO216 := n10_
          have BK176 := n11_
          have HB := n12_
          clear n0_ n1_ n2_ n3_ n4_ n5_ n6_ n7_ n8_ n9_ n10_ n11_ n12_
          clear hb ho45
          refine hK.out _ _ ⟨(blk_cell BK176.out 0).trans rfl,(blk_cell BK176.out 1).trans rfl,(blk_cell BK176.out 2).trans rfl,(blk_cell BK176.out 3).trans rfl,(blk_cell BK176.out 4).trans rfl,(blk_cell BK176.out 5).trans rfl,(blk_cell BK176.out 6).trans rfl,(blk_cell BK176.out 7).trans rfl,(blk_cell BK176.out 8).trans rfl,(blk_cell BK176.out 9).trans rfl,(blk_cell BK176.out 10).trans rfl⟩ (fun hHeld => ?_)
          clear hK K
          refine norm_ (a' := ?_) ?_ ?_
          rotate_left
          ·show Act.put _ (some 52) _ = _
           simp only [Act.put,List.setIfInBounds_toArray,List.set_cons_zero,List.set_cons_succ,i64_w,i32_w]
           rfl
          refine one_ (i := 25) (N := some 51) #[true,true,true,true,true,true,true,true,true,true,true,true,true,true,true,true,true,true,true,true,true,true,true,true,true,true,true,false,false,false] rfl rfl (one_of HT_.out (by kernel_rfl)) (by decide) (fun K hK => ?_)
          refine goes_ Try.func15 (by kernel_rfl) rfl #[.agg #[.string (⟨#[]⟩ : ByteArray),.slice none 0 0,.int .i64 0,.slice Ao17 y173.length co17,.slice none 0 0,.slice none 0 0,.slice none 0 0,.slice none 0 0,.slice none 0 0,.slice none 0 0,.int .i64 0],.slice Ao25 y177.length co25,(.slice A49 y207.length c49)] (by rfl) rfl rfl (by (try simp only [List.map_toArray,List.map_cons,List.map_nil]);first | done | rfl | (simp only [List.length_drop,List.length_take];rfl)) ?_
          refine (allot_Back.calls k (⟨#[]⟩ : ByteArray) _ _ ([] : List ByteArray) 0 _ _ y173 _ _ ([] : List (S98)) _ _ ([] : List (S100)) _ _ ([] : List (S102)) _ _ ([] : List (S104)) _ _ ([] : List (S106)) _ _ ([] : List Int) 0 _ _ y177 _ _ y207 t211 _ ?side1 ?side2 ?side3 ?side4 ?side5 ?side6 ?side7 ?side8 ?side9 ?side10 ?side11 ?side12 ?side13 ?side14 ?side15 ?side16 ?side17 ?side18 ?side19 ?side20 A13.out).mono ?_
          (case side1 => exact Kd.C_nil _ _)
          (case side2 => exact Nat.le_refl _)
          (case side3 => repeat (first | exact (Kd.S_reads' HO175.out).2.2 | (with_reducible refine Kd.C_alloc ?_ _) | (with_reducible refine Kd.C_drewN ?_ _) | (with_reducible refine Kd.C_drew ?_)))
          (case side4 => exact (Kd.S_reads' HO175.out).2.1)
          (case side5 => exact Kd.C_nil _ _)
          (case side6 => exact Nat.le_refl _)
          (case side7 => exact Kd.C_nil _ _)
          (case side8 => exact Nat.le_refl _)
          (case side9 => exact Kd.C_nil _ _)
          (case side10 => exact Nat.le_refl _)
          (case side11 => exact Kd.C_nil _ _)
          (case side12 => exact Nat.le_refl _)
          (case side13 => exact Kd.C_nil _ _)
          (case side14 => exact Nat.le_refl _)
          (case side15 => exact Kd.C_nil _ _)
          (case side16 => exact Nat.le_refl _)
          (case side17 => repeat (first | exact (Kd.R_reads' HO179.out).2.2 | (with_reducible refine Kd.C_alloc ?_ _) | (with_reducible refine Kd.C_drewN ?_ _) | (with_reducible refine Kd.C_drew ?_)))
          (case side18 => exact (Kd.R_reads' HO179.out).2.1)
          (case side19 => exact (by have hz_ := Kd.C_mid (lo := (1 : Int).toNat) (hi := (2 : Int).toNat) (c := co30) (Kd.R_reads' HO185.out).2.2 (by omega) (by omega) (Kd.R_reads' HO185.out).2.1;rw [show ((_ : List S47).take (2 : Int).toNat).drop (1 : Int).toNat = y207 from Ny207.out.symm] at hz_;rw [hA49];exact hz_))
          (case side20 => exact HC210.out)
          rintro e w46 ⟨v212,rfl,ho0,hb⟩
          refine ⟨_,rfl,?_⟩
          have n0_ := Aside0.mk (Kd.S_elder' (by (with_reducible repeat (first | apply Kd.S_alloc | apply Kd.S_drewN | apply Kd.S_drew));exact HO175.out) (Kd.R_base ho0) hb)
          have n1_ := Aside0.mk (Kd.R_below (by (with_reducible repeat (first | apply Kd.R_alloc | apply Kd.R_drewN | apply Kd.R_drew));exact HO179.out) hb)
          have n2_ := Aside0.mk (Kd.R_elder' (by (with_reducible repeat (first | apply Kd.R_alloc | apply Kd.R_drewN | apply Kd.R_drew));exact HO182.out) (Kd.R_base ho0) hb)
          have n3_ := Aside0.mk (Kd.R_below (by (with_reducible repeat (first | apply Kd.R_alloc | apply Kd.R_drewN | apply Kd.R_drew));exact HO185.out) hb)
          have n4_ := Aside0.mk (Kd.R_elder' (by (with_reducible repeat (first | apply Kd.R_alloc | apply Kd.R_drewN | apply Kd.R_drew));exact HO188.out) (Kd.R_base ho0) hb)
          have n5_ := Aside0.mk (Kd.R_below (by (with_reducible repeat (first | apply Kd.R_alloc | apply Kd.R_drewN | apply Kd.R_drew));exact HO191.out) hb)
          have n6_ := Aside0.mk (Kd.R_elder' (by (with_reducible repeat (first | apply Kd.R_alloc | apply Kd.R_drewN | apply Kd.R_drew));exact HO195.out) (Kd.R_base ho0) hb)
          have n7_ := Aside0.mk (Kd.R_elder' (by (with_reducible repeat (first | apply Kd.R_alloc | apply Kd.R_drewN | apply Kd.R_drew));exact HO202.out) (Kd.R_base ho0) hb)
          have n8_ := Aside0.mk (Kd.R_elder' (by (with_reducible repeat (first | apply Kd.R_alloc | apply Kd.R_drewN | apply Kd.R_drew));exact HO199.out) (Kd.R_base ho0) hb)
          have n9_ := Aside0.mk (Kd.R_elder' (by (with_reducible repeat (first | apply Kd.R_alloc | apply Kd.R_drewN | apply Kd.R_drew));exact HO206.out) (Kd.R_base ho0) hb)
          have n10_ := Aside0.mk (Kd.R_elder' (by (with_reducible repeat (first | apply Kd.R_alloc | apply Kd.R_drewN | apply Kd.R_drew));exact HO216.out) (Kd.R_base ho0) hb)
          have n11_ := Aside0.mk (Kd.R_lower (Kd.R_new' (Kd.R_new' (Kd.R_new' (Kd.R_new' (Kd.R_new' (Kd.R_new' (Kd.R_new' ho0 (Kd.R_lt (by (with_reducible repeat (first | apply Kd.R_alloc | apply Kd.R_drewN | apply Kd.R_drew));exact HO182.out))) (Kd.R_lt (by (with_reducible repeat (first | apply Kd.R_alloc | apply Kd.R_drewN | apply Kd.R_drew));exact HO188.out))) (Kd.R_lt (by (with_reducible repeat (first | apply Kd.R_alloc | apply Kd.R_drewN | apply Kd.R_drew));exact HO195.out))) (Kd.R_lt (by (with_reducible repeat (first | apply Kd.R_alloc | apply Kd.R_drewN | apply Kd.R_drew));exact HO202.out))) (Kd.R_lt (by (with_reducible repeat (first | apply Kd.R_alloc | apply Kd.R_drewN | apply Kd.R_drew));exact HO199.out))) (Kd.R_lt (by (with_reducible repeat (first | apply Kd.R_alloc | apply Kd.R_drewN | apply Kd.R_drew));exact HO206.out))) (Kd.R_lt (by (with_reducible repeat (first | apply Kd.R_alloc | apply Kd.R_drewN | apply Kd.R_drew));exact HO216.out))) (below_size (by repeat (first | (with_reducible first | exact HB.out | apply below_alloc | apply pw_below_drewN | apply below_drew1 | refine below_set ?_ GE176.out) | exact HB.out))))
          have n12_ := Aside0.mk (blk_below (g := gb176) (o := .cells #[.string (⟨#[]⟩ : ByteArray),.slice none 0 0,.int .i64 0,.slice Ao17 y173.length co17,.slice none 0 0,.slice none 0 0,.slice none 0 0,.slice none 0 0,.slice none 0 0,.slice none 0 0,.int .i64 0] 31 (0,0)) (by (with_reducible repeat (first | refine blk_drewN ?_ _ | refine blk_drew ?_ | refine blk_alloc ?_ _));exact BK176.out) hb)
          have n13_ := Aside0.mk (below_step (by repeat (first | (with_reducible first | exact HB.out | apply below_alloc | apply pw_below_drewN | apply below_drew1 | refine below_set ?_ GE176.out) | exact HB.out)) hb)
          clear HO175
          clear HO179
          clear HO182
          clear HO185
          clear HO188
          clear HO191
          clear HO195
          clear HO202
          clear HO199
          clear HO206
          clear HO216
          clear BK176
          clear HB
          have HO175 := n0_
          have HO179 := n1_
          have HO182 := n2_
          have HO185 := n3_
          have HO188 := n4_
          have HO191 := n5_
          have HO195 := n6_
          have HO202 := n7_
          have HO199 := n8_
          have HO206 := n9_
          have HO216 := n10_
          have HO213 := n11_
          have BK176 := n12_
          have HB := n13_
          clear n0_ n1_ n2_ n3_ n4_ n5_ n6_ n7_ n8_ n9_ n10_ n11_ n12_ n13_
          (try clear hb)
          (try clear hb2)
          (try clear hk)
          (try clear hi)
          (try clear ho0)
          refine hK.out _ _ ⟨(blk_cell BK176.out 0).trans rfl,(blk_cell BK176.out 1).trans rfl,(blk_cell BK176.out 2).trans rfl,(blk_cell BK176.out 3).trans rfl,(blk_cell BK176.out 4).trans rfl,(blk_cell BK176.out 5).trans rfl,(blk_cell BK176.out 6).trans rfl,(blk_cell BK176.out 7).trans rfl,(blk_cell BK176.out 8).trans rfl,(blk_cell BK176.out 9).trans rfl,(blk_cell BK176.out 10).trans rfl⟩ (fun hHeld => ?_)
          clear hK K
          refine norm_ (a' := ?_) ?_ ?_
          rotate_left
          ·show Act.put _ (some 51) _ = _
           simp only [Act.put,List.setIfInBounds_toArray,List.set_cons_zero,List.set_cons_succ,i64_w,i32_w]
           rfl
          exact norm_ (by simp only [putAll,Act.put,List.setIfInBounds_toArray,List.set_cons_zero,List.set_cons_succ]) (hCont (.slice Ao40 t197.length co40,.slice Ao41 y200.length co41,.slice Ao43 t204.length co43,v212,v215) _ ⟨hHeld,(by (with_reducible repeat (first | apply Kd.S_alloc | apply Kd.S_drewN | apply Kd.S_drew));exact Kd.S_mono HO175.out (fun _ hk => ⟨hk.1.1.1.1.1.1.1.2,⟨hk.1.1.1.1.1.1.2,⟨hk.1.1.1.1.1.2,⟨hk.1.1.1.2,⟨hk.1.1.1.1.2,⟨hk.1.1.2,⟨hk.2,hk.1.2⟩⟩⟩⟩⟩⟩⟩)),(by (with_reducible repeat (first | apply Kd.R_alloc | apply Kd.R_drewN | apply Kd.R_drew));exact HO179.out),(by (with_reducible repeat (first | apply Kd.R_alloc | apply Kd.R_drewN | apply Kd.R_drew));exact Kd.R_mono HO182.out (fun _ hk => ⟨hk.1.1.1.1.1.1.2,⟨hk.1.1.1.1.1.2,⟨hk.1.1.1.2,⟨hk.1.1.1.1.2,⟨hk.1.1.2,⟨hk.2,hk.1.2⟩⟩⟩⟩⟩⟩)),(by (with_reducible repeat (first | apply Kd.R_alloc | apply Kd.R_drewN | apply Kd.R_drew));exact Kd.R_mono HO185.out (fun _ hk => hk.2)),(by (with_reducible repeat (first | apply Kd.R_alloc | apply Kd.R_drewN | apply Kd.R_drew));exact Kd.R_mono HO188.out (fun _ hk => ⟨hk.1.1.1.1.1.1.2,⟨hk.1.1.1.1.1.2,⟨hk.1.1.1.2,⟨hk.1.1.1.1.2,⟨hk.1.1.2,⟨hk.2,hk.1.2⟩⟩⟩⟩⟩⟩)),(by (with_reducible repeat (first | apply Kd.R_alloc | apply Kd.R_drewN | apply Kd.R_drew));exact Kd.R_mono HO191.out (fun _ hk => hk.2)),(by (with_reducible repeat (first | apply Kd.R_alloc | apply Kd.R_drewN | apply Kd.R_drew));exact Kd.R_mono HO195.out (fun _ hk => ⟨hk.1.1.1.1.1.1.2,⟨hk.1.1.1.1.1.2,⟨hk.1.1.1.2,⟨hk.1.1.1.1.2,⟨hk.1.1.2,⟨hk.2,hk.1.2⟩⟩⟩⟩⟩⟩)),(by (with_reducible repeat (first | apply Kd.R_alloc | apply Kd.R_drewN | apply Kd.R_drew));exact Kd.R_mono HO199.out (fun _ hk => ⟨hk.1.1.1.1.1.1.2,⟨hk.1.1.1.1.1.2,⟨hk.1.1.1.1.2,⟨hk.1.1.1.2,⟨hk.1.1.2,⟨hk.2,hk.1.2⟩⟩⟩⟩⟩⟩)),(by (with_reducible repeat (first | apply Kd.R_alloc | apply Kd.R_drewN | apply Kd.R_drew));exact Kd.R_mono HO202.out (fun _ hk => ⟨hk.1.1.1.1.1.1.2,⟨hk.1.1.1.1.1.2,⟨hk.1.1.1.1.2,⟨hk.1.1.1.2,⟨hk.1.1.2,⟨hk.2,hk.1.2⟩⟩⟩⟩⟩⟩)),(by (with_reducible repeat (first | apply Kd.R_alloc | apply Kd.R_drewN | apply Kd.R_drew));exact Kd.R_mono HO206.out (fun _ hk => ⟨hk.1.1.1.1.1.1.2,⟨hk.1.1.1.1.1.2,⟨hk.1.1.1.1.2,⟨hk.1.1.2,⟨hk.1.1.1.2,⟨hk.2,hk.1.2⟩⟩⟩⟩⟩⟩)),(by (with_reducible repeat (first | apply Kd.R_alloc | apply Kd.R_drewN | apply Kd.R_drew));exact Kd.R_mono HO213.out (fun _ hk => ⟨hk.1.1.1.1.1.1.2,⟨hk.1.1.1.1.1.2,⟨hk.1.1.1.1.2,⟨hk.1.1.2,⟨hk.1.1.1.2,⟨hk.1.2,hk.2⟩⟩⟩⟩⟩⟩)),(by (with_reducible repeat (first | apply Kd.R_alloc | apply Kd.R_drewN | apply Kd.R_drew));exact Kd.R_mono HO216.out (fun _ hk => ⟨hk.1.1.1.1.1.1.2,⟨hk.1.1.1.1.1.2,⟨hk.1.1.1.1.2,⟨hk.1.1.2,⟨hk.1.1.1.2,⟨hk.1.2,hk.2⟩⟩⟩⟩⟩⟩)),(by (with_reducible repeat (first | refine blk_drewN ?_ _ | refine blk_drew ?_ | refine blk_alloc ?_ _));exact BK176.out),(by repeat (first | (with_reducible first | exact HB.out | apply below_alloc | apply pw_below_drewN | apply below_drew1 | refine below_set ?_ GE176.out) | exact HB.out))⟩)
       rintro ⟨v198,v201,v205,v212,v215⟩ w47 ⟨hS_,h0_,h1_,h2_,h3_,h4_,h5_,h6_,h7_,h8_,h9_,h10_,h11_,h12_,h13_⟩
       have n0_ : Aside0 (Kd.S k58 58 w47 w.heap.size (fun k_ => some k_ ≠ (.slice Ao26 y180.length co26 : Value).ownBlock ∧ some k_ ≠ (.slice Ao32 t186.length co32 : Value).ownBlock ∧ some k_ ≠ (.slice Ao36 y193.length co36 : Value).ownBlock ∧ some k_ ≠ (v198 : Value).ownBlock ∧ some k_ ≠ (v201 : Value).ownBlock ∧ some k_ ≠ (v205 : Value).ownBlock ∧ some k_ ≠ (v212 : Value).ownBlock ∧ some k_ ≠ (v215 : Value).ownBlock) (.slice Ao17 y173.length co17) y173) := ⟨h0_⟩
       have n1_ : Aside0 (Kd.R k45 45 w47 w.heap.size (fun _ => True) (.slice Ao25 y177.length co25) y177) := ⟨h1_⟩
       have n2_ : Aside0 (Kd.R (Kd.int .i64) 3 w47 w.heap.size (fun k_ => some k_ ≠ (.slice Ao32 t186.length co32 : Value).ownBlock ∧ some k_ ≠ (.slice Ao36 y193.length co36 : Value).ownBlock ∧ some k_ ≠ (v198 : Value).ownBlock ∧ some k_ ≠ (v201 : Value).ownBlock ∧ some k_ ≠ (v205 : Value).ownBlock ∧ some k_ ≠ (v212 : Value).ownBlock ∧ some k_ ≠ (v215 : Value).ownBlock) (.slice Ao26 y180.length co26) y180) := ⟨h2_⟩
       have n3_ : Aside0 (Kd.R k47 47 w47 w.heap.size (fun k_ => some k_ ≠ (.slice Ao31 y189.length co31 : Value).ownBlock) (.slice Ao30 t183.length co30) t183) := ⟨h3_⟩
       have n4_ : Aside0 (Kd.R (Kd.int .i64) 3 w47 w.heap.size (fun k_ => some k_ ≠ (.slice Ao26 y180.length co26 : Value).ownBlock ∧ some k_ ≠ (.slice Ao36 y193.length co36 : Value).ownBlock ∧ some k_ ≠ (v198 : Value).ownBlock ∧ some k_ ≠ (v201 : Value).ownBlock ∧ some k_ ≠ (v205 : Value).ownBlock ∧ some k_ ≠ (v212 : Value).ownBlock ∧ some k_ ≠ (v215 : Value).ownBlock) (.slice Ao32 t186.length co32) t186) := ⟨h4_⟩
       have n5_ : Aside0 (Kd.R k47 47 w47 w.heap.size (fun k_ => some k_ ≠ (.slice Ao30 t183.length co30 : Value).ownBlock) (.slice Ao31 y189.length co31) y189) := ⟨h5_⟩
       have n6_ : Aside0 (Kd.R (Kd.int .i64) 3 w47 w.heap.size (fun k_ => some k_ ≠ (.slice Ao26 y180.length co26 : Value).ownBlock ∧ some k_ ≠ (.slice Ao32 t186.length co32 : Value).ownBlock ∧ some k_ ≠ (v198 : Value).ownBlock ∧ some k_ ≠ (v201 : Value).ownBlock ∧ some k_ ≠ (v205 : Value).ownBlock ∧ some k_ ≠ (v212 : Value).ownBlock ∧ some k_ ≠ (v215 : Value).ownBlock) (.slice Ao36 y193.length co36) y193) := ⟨h6_⟩
       have n7_ : Aside0 (Kd.R (Kd.int .i64) 3 w47 w.heap.size (fun k_ => some k_ ≠ (.slice Ao26 y180.length co26 : Value).ownBlock ∧ some k_ ≠ (.slice Ao32 t186.length co32 : Value).ownBlock ∧ some k_ ≠ (.slice Ao36 y193.length co36 : Value).ownBlock ∧ some k_ ≠ (v201 : Value).ownBlock ∧ some k_ ≠ (v205 : Value).ownBlock ∧ some k_ ≠ (v212 : Value).ownBlock ∧ some k_ ≠ (v215 : Value).ownBlock) v198 t197) := ⟨h7_⟩
       have n8_ : Aside0 (Kd.R (Kd.int .i64) 3 w47 w.heap.size (fun k_ => some k_ ≠ (.slice Ao26 y180.length co26 : Value).ownBlock ∧ some k_ ≠ (.slice Ao32 t186.length co32 : Value).ownBlock ∧ some k_ ≠ (.slice Ao36 y193.length co36 : Value).ownBlock ∧ some k_ ≠ (v198 : Value).ownBlock ∧ some k_ ≠ (v205 : Value).ownBlock ∧ some k_ ≠ (v212 : Value).ownBlock ∧ some k_ ≠ (v215 : Value).ownBlock) v201 y200) := ⟨h8_⟩
       have n9_ : Aside0 (Kd.R (Kd.int .i64) 3 w47 w.heap.size (fun k_ => some k_ ≠ (.slice Ao26 y180.length co26 : Value).ownBlock ∧ some k_ ≠ (.slice Ao32 t186.length co32 : Value).ownBlock ∧ some k_ ≠ (.slice Ao36 y193.length co36 : Value).ownBlock ∧ some k_ ≠ (v198 : Value).ownBlock ∧ some k_ ≠ (v201 : Value).ownBlock ∧ some k_ ≠ (v212 : Value).ownBlock ∧ some k_ ≠ (v215 : Value).ownBlock) v205 t204) := ⟨h9_⟩
       have n10_ : Aside0 (Kd.R (Kd.int .i64) 3 w47 w.heap.size (fun k_ => some k_ ≠ (.slice Ao26 y180.length co26 : Value).ownBlock ∧ some k_ ≠ (.slice Ao32 t186.length co32 : Value).ownBlock ∧ some k_ ≠ (.slice Ao36 y193.length co36 : Value).ownBlock ∧ some k_ ≠ (v198 : Value).ownBlock ∧ some k_ ≠ (v201 : Value).ownBlock ∧ some k_ ≠ (v205 : Value).ownBlock ∧ some k_ ≠ (v215 : Value).ownBlock) v212 t211) := ⟨h10_⟩
       have n11_ : Aside0 (Kd.R (Kd.int .i64) 3 w47 w.heap.size (fun k_ => some k_ ≠ (.slice Ao26 y180.length co26 : Value).ownBlock ∧ some k_ ≠ (.slice Ao32 t186.length co32 : Value).ownBlock ∧ some k_ ≠ (.slice Ao36 y193.length co36 : Value).ownBlock ∧ some k_ ≠ (v198 : Value).ownBlock ∧ some k_ ≠ (v201 : Value).ownBlock ∧ some k_ ≠ (v205 : Value).ownBlock ∧ some k_ ≠ (v212 : Value).ownBlock) v215 y214) := ⟨h11_⟩
       have n12_ : Aside0 (w47.heap[gb176]? = some (.cells #[.string (⟨#[]⟩ : ByteArray),.slice none 0 0,.int .i64 0,.slice Ao17 y173.length co17,.slice none 0 0,.slice none 0 0,.slice none 0 0,.slice none 0 0,.slice none 0 0,.slice none 0 0,.int .i64 0] 31 (0,0))) := ⟨h12_⟩
       have n13_ : Aside0 (Below w.heap.size w w47) := ⟨h13_⟩
       clear HO175
       clear HO179
       clear HO182
       clear HO185
       clear HO188
       clear HO191
       clear BK176
       clear HB
       clear h0_ h1_ h2_ h3_ h4_ h5_ h6_ h7_ h8_ h9_ h10_ h11_ h12_ h13_
       have HO175 := n0_
       have HO179 := n1_
       have HO182 := n2_
       have HO185 := n3_
       have HO188 := n4_
       have HO191 := n5_
       have HO195 := n6_
       have HO199 := n7_
       have HO202 := n8_
       have HO206 := n9_
       have HO213 := n10_
       have HO216 := n11_
       have BK176 := n12_
       have HB := n13_
       clear n0_ n1_ n2_ n3_ n4_ n5_ n6_ n7_ n8_ n9_ n10_ n11_ n12_ n13_
       have hHeld : w47.cell? ⟨gb176,0,none⟩ = some (.string (⟨#[]⟩ : ByteArray)) ∧ w47.cell? ⟨gb176,1,none⟩ = some (.slice none 0 0) ∧ w47.cell? ⟨gb176,2,none⟩ = some (.int .i64 0) ∧ w47.cell? ⟨gb176,3,none⟩ = some (.slice Ao17 y173.length co17) ∧ w47.cell? ⟨gb176,4,none⟩ = some (.slice none 0 0) ∧ w47.cell? ⟨gb176,5,none⟩ = some (.slice none 0 0) ∧ w47.cell? ⟨gb176,6,none⟩ = some (.slice none 0 0) ∧ w47.cell? ⟨gb176,7,none⟩ = some (.slice none 0 0) ∧ w47.cell? ⟨gb176,8,none⟩ = some (.slice none 0 0) ∧ w47.cell? ⟨gb176,9,none⟩ = some (.slice none 0 0) ∧ w47.cell? ⟨gb176,10,none⟩ = some (.int .i64 0) := hS_
       obtain ⟨Ao48,co48,eo48⟩ := Kd.R_slice HO206.out
       (first | subst eo48 | (injection eo48 with f1_ f2_ f3_;have f4_ := f1_.symm;have f5_ := f3_.symm;clear f1_ f2_ f3_;subst f4_;subst f5_))
       have KA49 := Aside0.mk hA49
       clear hy49 hA49
       have KL49 := Aside0.mk (show 2 ≤ t183.length from by omega)
       have KM49 := Aside0.mk (show 1 ≤ 2 from by omega)
       replace q49 := eq_true q49
       obtain ⟨Ao50,co50,eo50⟩ := Kd.R_slice HO213.out
       (first | subst eo50 | (injection eo50 with f1_ f2_ f3_;have f4_ := f1_.symm;have f5_ := f3_.symm;clear f1_ f2_ f3_;subst f4_;subst f5_))
       obtain ⟨Ao51,co51,eo51⟩ := Kd.R_slice HO216.out
       (first | subst eo51 | (injection eo51 with f1_ f2_ f3_;have f4_ := f1_.symm;have f5_ := f3_.symm;clear f1_ f2_ f3_;subst f4_;subst f5_))
       refine norm_ (a' := ?_) ?_ ?_
       rotate_left
       ·simp only [putAll,Act.put,List.setIfInBounds_toArray,List.set_cons_zero,List.set_cons_succ]
        rfl
       refine one_ (i := 27) (N := some 53) #[true,true,true,true,true,true,true,true,true,true,true,true,true,true,true,true,true,true,true,true,true,true,true,true,true,true,true,true,false,false] rfl rfl (one_of HT_.out (by kernel_rfl)) (by decide) (fun K hK => ?_)
       refine goes_ Try.func12 (by kernel_rfl) rfl #[.slice Ao50 t211.length co50,.slice Ao51 y214.length co51] (by rfl) rfl rfl (by (try simp only [List.map_toArray,List.map_cons,List.map_nil]);first | done | rfl | (simp only [List.length_drop,List.length_take];rfl)) ?_
       with_reducible refine (bourneref37_SameInts.calls k _ _ t211 _ _ y214 t217 _ ?side1 ?side2 ?side3 ?side4 A14.out).mono ?_
       (case side1 => repeat (first | exact (Kd.R_reads' HO213.out).2.2 | (with_reducible refine Kd.C_alloc ?_ _) | (with_reducible refine Kd.C_drewN ?_ _) | (with_reducible refine Kd.C_drew ?_)))
       (case side2 => exact (Kd.R_reads' HO213.out).2.1)
       (case side3 => repeat (first | exact (Kd.R_reads' HO216.out).2.2 | (with_reducible refine Kd.C_alloc ?_ _) | (with_reducible refine Kd.C_drewN ?_ _) | (with_reducible refine Kd.C_drew ?_)))
       (case side4 => exact (Kd.R_reads' HO216.out).2.1)
       rintro e w' ⟨rfl,⟨nd,rfl⟩⟩
       refine ⟨_,rfl,?_⟩
       refine hK.out _ _ ⟨(blk_cell BK176.out 0).trans rfl,(blk_cell BK176.out 1).trans rfl,(blk_cell BK176.out 2).trans rfl,(blk_cell BK176.out 3).trans rfl,(blk_cell BK176.out 4).trans rfl,(blk_cell BK176.out 5).trans rfl,(blk_cell BK176.out 6).trans rfl,(blk_cell BK176.out 7).trans rfl,(blk_cell BK176.out 8).trans rfl,(blk_cell BK176.out 9).trans rfl,(blk_cell BK176.out 10).trans rfl⟩ (fun hHeld => ?_)
       clear hK K
       refine norm_ (a' := ?_) ?_ ?_
       rotate_left
       ·show Act.put _ (some 53) _ = _
        simp only [Act.put,List.setIfInBounds_toArray,List.set_cons_zero,List.set_cons_succ,i64_w,i32_w]
        rfl
       refine pure_ (i := 28) (N := some 54) (v := ?_) (a' := ?_) #[true,true,true,true,true,true,true,true,true,true,true,true,true,true,true,true,true,true,true,true,true,true,true,true,true,true,true,true,true,false] rfl rfl (any_of HT_.out (by kernel_rfl)) (fun _ _ _ h => h) (Or.inl ⟨by rfl,?_⟩) ?_ ?_
       rotate_left
       ·intro w'
        go_simp
        with_reducible rfl
       rotate_left
       ·simp only [Act.put,List.setIfInBounds_toArray,List.set_cons_zero,List.set_cons_succ,i64_w,i32_w]
        rfl
       refine pure_ (i := 29) (N := some 0) (v := ?_) (a' := ?_) #[true,true,true,true,true,true,true,true,true,true,true,true,true,true,true,true,true,true,true,true,true,true,true,true,true,true,true,true,true,true] rfl rfl (any_of HT_.out (by kernel_rfl)) (fun _ _ _ h => h) (Or.inl ⟨by rfl,?_⟩) ?_ ?_
       rotate_left
       ·intro w'
        go_simp
        with_reducible rfl
       rotate_left
       ·simp only [Act.put,List.setIfInBounds_toArray,List.set_cons_zero,List.set_cons_succ,i64_w,i32_w]
        rfl
       refine done_ (done_of HT_.out (by kernel_rfl)) ?_
       try go_wp2
       go_ret
       exact ⟨by first | rfl | (simp [errW_none,errW_some] <;> rfl) | (simp [*,errW_none,errW_some] <;> rfl),by repeat (first | (with_reducible first | exact HB.out | apply below_alloc | apply pw_below_drewN | apply below_drew1 | refine below_set ?_ GE176.out) | exact HB.out)⟩
      ·rw [if_neg c12] at H
       exact absurd H (by simp)
     ·rw [if_neg c11] at H
      exact absurd H (by simp)
    ·rw [if_neg c10] at H
     exact absurd H (by simp)
   ·replace c8 := Bool.eq_false_iff.mpr c8
    subst c8
    have H1 : (none) = some r := by rw [if_neg (show ¬ (false = true) by decide)] at H;exact H
    clear H
    have H := H1
    clear H1
    exact absurd H (by simp)
  ·replace c5 := Bool.eq_false_iff.mpr c5
   subst c5
   have H1 : (none) = some r := by rw [if_neg (show ¬ (false = true) by decide)] at H;exact H
   clear H
   have H := H1
   clear H1
   exact absurd H (by simp)
 ·replace c3 := Bool.eq_false_iff.mpr c3
  subst c3
  have H1 : (none) = some r := by rw [if_neg (show ¬ (false = true) by decide)] at H;exact H
  clear H
  have H := H1
  clear H1
  exact absurd H (by simp)

end Go.Proofs.Ythmbleephognnaa.Q
