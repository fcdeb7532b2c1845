-- written by xprint.py (this session's program over the kit's print program)
import Derived.Test.YthmbleephognnaaQx0
import Derived.Test.YthmbleephognnaaQx9
import Derived.Test.YthmbleephognnaaQx10
namespace Go.Proofs.Ythmbleephognnaa.Q
open Go.RowKit Go.Proofs.YthmbleephognnaaW.PrintWords Go.Proofs.YthmbleephognnaaW.PrintLast Go.Proofs.YthmbleephognnaaW.PrintMore
attribute [local go_sem] max2_int min2_int max_two min_two max_three min_three max_four min_four -- for this text's walks alone
set_option linter.unusedVariables false
set_option linter.unusedSimpArgs false

/-! ### bourneref37_Day: function 11 -/
mutual
def bourneref37_Day.l0 : Nat → List (S45) → List Int → List Int → Int → ByteArray → List ByteArray → Int → List (S58) → List (S98) → List (S100) → List (S102) → List (S104) → List (S106) → List Int → Int → Option ((List (S47)) × List Int)
 | 0,_,_,_,_,_,_,_,_,_,_,_,_,_,_,_ => none
 | k + 1,x1,x2,x8,x9,x236000,x236001,x236002,x236003,x236004,x236005,x236006,x236007,x236008,x236009,x236010 => if x9 < (x236003.length : Int) then ((bourneref37_There.f k x236000 x236001 x236002 x236003 x236004 x236005 x236006 x236007 x236008 x236009 x236010 x2 x9).bind fun t236 => (if x8.length < 17592186044416 then (bourneref37_Day.l0 k x1 x2 (x8 ++ [t236]) (wrap64 (x9 + 1)) x236000 x236001 x236002 x236003 x236004 x236005 x236006 x236007 x236008 x236009 x236010) else (none))) else (bourneref37_Day.l1 k x1 x8 ([] : List (S47)) 0 x236000 x236001 x236002 x236003 x236004 x236005 x236006 x236007 x236008 x236009 x236010)
def bourneref37_Day.l1 : Nat → List (S45) → List Int → List (S47) → Int → ByteArray → List ByteArray → Int → List (S58) → List (S98) → List (S100) → List (S102) → List (S104) → List (S106) → List Int → Int → Option ((List (S47)) × List Int)
 | 0,_,_,_,_,_,_,_,_,_,_,_,_,_,_,_ => none
 | k + 1,x1,x8,x10,x11,x236000,x236001,x236002,x236003,x236004,x236005,x236006,x236007,x236008,x236009,x236010 => if x11 < (x1.length : Int) then (if 0 ≤ x11 then ((bourneref37_Reach.f k x236000 x236001 x236002 x236003 x236004 x236005 x236006 x236007 x236008 x236009 x236010 ((rd_T45 x1 x11).f3)).bind fun t241 => (if (t241.length : Int) = 0 then (bourneref37_Day.j2 k x1 x8 x10 x11 t241 0 x236000 x236001 x236002 x236003 x236004 x236005 x236006 x236007 x236008 x236009 x236010) else (bourneref37_Day.j2 k x1 x8 x10 x11 t241 (mx 0 ((rd_T45 x1 x11).f4)) x236000 x236001 x236002 x236003 x236004 x236005 x236006 x236007 x236008 x236009 x236010))) else (none)) else (some (x10,x8))
def bourneref37_Day.j2 : Nat → List (S45) → List Int → List (S47) → Int → List Int → Int → ByteArray → List ByteArray → Int → List (S58) → List (S98) → List (S100) → List (S102) → List (S104) → List (S106) → List Int → Int → Option ((List (S47)) × List Int)
 | 0,_,_,_,_,_,_,_,_,_,_,_,_,_,_,_,_,_ => none
 | k + 1,x1,x8,x10,x11,x12,x13,x236000,x236001,x236002,x236003,x236004,x236005,x236006,x236007,x236008,x236009,x236010 => bourneref37_Day.l2 k x1 x8 x10 x11 x12 x13 0 x236000 x236001 x236002 x236003 x236004 x236005 x236006 x236007 x236008 x236009 x236010
def bourneref37_Day.l2 : Nat → List (S45) → List Int → List (S47) → Int → List Int → Int → Int → ByteArray → List ByteArray → Int → List (S58) → List (S98) → List (S100) → List (S102) → List (S104) → List (S106) → List Int → Int → Option ((List (S47)) × List Int)
 | 0,_,_,_,_,_,_,_,_,_,_,_,_,_,_,_,_,_,_ => none
 | k + 1,x1,x8,x10,x11,x12,x13,x14,x236000,x236001,x236002,x236003,x236004,x236005,x236006,x236007,x236008,x236009,x236010 => if x14 < (x12.length : Int) then (if 0 ≤ x14 then (if 0 ≤ (rd x12 x14) then (if (rd x12 x14) < (x8.length : Int) then (bourneref37_Day.l2 k x1 x8 x10 x11 x12 (mn x13 (rd x8 (rd x12 x14))) (wrap64 (x14 + 1)) x236000 x236001 x236002 x236003 x236004 x236005 x236006 x236007 x236008 x236009 x236010) else (none)) else (none)) else (none)) else (bourneref37_Day.l3 k x1 x8 x10 x11 x12 x13 0 x236000 x236001 x236002 x236003 x236004 x236005 x236006 x236007 x236008 x236009 x236010)
def bourneref37_Day.l3 : Nat → List (S45) → List Int → List (S47) → Int → List Int → Int → Int → ByteArray → List ByteArray → Int → List (S58) → List (S98) → List (S100) → List (S102) → List (S104) → List (S106) → List Int → Int → Option ((List (S47)) × List Int)
 | 0,_,_,_,_,_,_,_,_,_,_,_,_,_,_,_,_,_,_ => none
 | k + 1,x1,x8,x10,x11,x12,x13,x15,x236000,x236001,x236002,x236003,x236004,x236005,x236006,x236007,x236008,x236009,x236010 => if x15 < (x12.length : Int) then (if 0 ≤ x15 then (if 0 ≤ (rd x12 x15) then (if (rd x12 x15) < (x8.length : Int) then (bourneref37_Day.l3 k x1 (x8.set ((rd x12 x15) : Int).toNat (wrap64 ((rd x8 (rd x12 x15)) - x13))) x10 x11 x12 x13 (wrap64 (x15 + 1)) x236000 x236001 x236002 x236003 x236004 x236005 x236006 x236007 x236008 x236009 x236010) else (none)) else (none)) else (none)) else (if 0 ≤ x11 then (if x11 < (x1.length : Int) then (if x10.length < 8796093022208 then (bourneref37_Day.l1 k x1 x8 (x10 ++ [(⟨(rd_T45 x1 x11).f0,x13⟩ : S47)]) (wrap64 (x11 + 1)) x236000 x236001 x236002 x236003 x236004 x236005 x236006 x236007 x236008 x236009 x236010) else (none)) else (none)) else (none))
end
def bourneref37_Day.f (k : Nat) (a0_0 : ByteArray) (l0_1 : List ByteArray) (a0_2 : Int) (l0_3 : List (S58)) (l0_4 : List (S98)) (l0_5 : List (S100)) (l0_6 : List (S102)) (l0_7 : List (S104)) (l0_8 : List (S106)) (l0_9 : List Int) (a0_10 : Int) (l1 : List (S45)) (l2 : List Int) : Option ((List (S47)) × List Int) := bourneref37_Day.l0 k l1 l2 ([] : List Int) 0 a0_0 l0_1 a0_2 l0_3 l0_4 l0_5 l0_6 l0_7 l0_8 l0_9 a0_10
end Go.Proofs.Ythmbleephognnaa.Q
