-- written by xprint.py (this session's program over the kit's print program)
import Derived.Test.YthmbleephognnaaQx0
import Derived.Test.YthmbleephognnaaQx9
import Derived.Test.YthmbleephognnaaQx12
namespace Go.Proofs.Ythmbleephognnaa.Q
open Go.RowKit Go.Proofs.YthmbleephognnaaW.PrintWords Go.Proofs.YthmbleephognnaaW.PrintLast Go.Proofs.YthmbleephognnaaW.PrintMore
attribute [local go_sem] max2_int min2_int max_two min_two max_three min_three max_four min_four -- for this text's walks alone
set_option linter.unusedVariables false
set_option linter.unusedSimpArgs false

/-! ### bourneref37_Back: function 16 -/
mutual
def bourneref37_Back.l0 : Nat → List (S45) → List (S47) → List Int → Int → ByteArray → List ByteArray → Int → List (S58) → List (S98) → List (S100) → List (S102) → List (S104) → List (S106) → List Int → Int → Option (List Int)
 | 0,_,_,_,_,_,_,_,_,_,_,_,_,_,_,_ => none
 | k + 1,x1,x2,x7,x8,x257000,x257001,x257002,x257003,x257004,x257005,x257006,x257007,x257008,x257009,x257010 => if x8 < (x2.length : Int) then (if 0 ≤ x8 then ((bourneref37_Find.f k x1 ((rd_T47 x2 x8).f0)).bind fun t261 => (if t261 < 0 then (bourneref37_Back.j1 k x1 x2 x7 x8 t261 true x257000 x257001 x257002 x257003 x257004 x257005 x257006 x257007 x257008 x257009 x257010) else (if 0 ≤ t261 then (if t261 < (x1.length : Int) then (if ((rd_T45 x1 t261).f8) < 0 then (bourneref37_Back.j1 k x1 x2 x7 x8 t261 true x257000 x257001 x257002 x257003 x257004 x257005 x257006 x257007 x257008 x257009 x257010) else (bourneref37_Back.j1 k x1 x2 x7 x8 t261 (decide (((rd_T45 x1 t261).f8) ≥ (x257003.length : Int))) x257000 x257001 x257002 x257003 x257004 x257005 x257006 x257007 x257008 x257009 x257010)) else (none)) else (none)))) else (none)) else (some x7)
def bourneref37_Back.j1 : Nat → List (S45) → List (S47) → List Int → Int → Int → Bool → ByteArray → List ByteArray → Int → List (S58) → List (S98) → List (S100) → List (S102) → List (S104) → List (S106) → List Int → Int → Option (List Int)
 | 0,_,_,_,_,_,_,_,_,_,_,_,_,_,_,_,_,_ => none
 | k + 1,x1,x2,x7,x8,x9,x50,x257000,x257001,x257002,x257003,x257004,x257005,x257006,x257007,x257008,x257009,x257010 => if x50 = true then (bourneref37_Back.l0 k x1 x2 x7 (wrap64 (x8 + 1)) x257000 x257001 x257002 x257003 x257004 x257005 x257006 x257007 x257008 x257009 x257010) else (if 0 ≤ x8 then (if x8 < (x2.length : Int) then ((bourneref01_Clamp.f ((rd_T47 x2 x8).f1) 0 1125899906842624).bind fun t265 => (if 0 ≤ x9 then (if x9 < (x1.length : Int) then ((bourneref01_Clamp.f ((rd_T45 x1 x9).f7) 0 1000).bind fun t267 => ((bourneref01_Scale.f k t265 t267 1000).bind fun bt268 => (if 0 ≤ ((rd_T45 x1 x9).f8) then (if ((rd_T45 x1 x9).f8) < (x7.length : Int) then ((bourneref01_Add.f k (rd x7 ((rd_T45 x1 x9).f8)) bt268.1).bind fun t274 => (bourneref37_Back.l0 k x1 x2 (x7.set (((rd_T45 x1 x9).f8) : Int).toNat t274) (wrap64 (x8 + 1)) x257000 x257001 x257002 x257003 x257004 x257005 x257006 x257007 x257008 x257009 x257010)) else (none)) else (none)))) else (none)) else (none))) else (none)) else (none))
end
def bourneref37_Back.f (k : Nat) (a0_0 : ByteArray) (l0_1 : List ByteArray) (a0_2 : Int) (l0_3 : List (S58)) (l0_4 : List (S98)) (l0_5 : List (S100)) (l0_6 : List (S102)) (l0_7 : List (S104)) (l0_8 : List (S106)) (l0_9 : List Int) (a0_10 : Int) (l1 : List (S45)) (l2 : List (S47)) : Option (List Int) := if 0 ≤ (l0_3.length : Int) then (if ((l0_3.length : Int) : Int).toNat ≤ 35184372088832 then (bourneref37_Back.l0 k l1 l2 (List.replicate ((l0_3.length : Int) : Int).toNat 0) 0 a0_0 l0_1 a0_2 l0_3 l0_4 l0_5 l0_6 l0_7 l0_8 l0_9 a0_10) else (none)) else (none)
end Go.Proofs.Ythmbleephognnaa.Q
