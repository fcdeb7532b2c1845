-- written by xprint.py (this session's program over the kit's print program)
import Derived.Test.YthmbleephognnaaProg
import Derived.Below
import Derived.Deep.Draws
import Derived.Deep.AppendLies
import Derived.Maps.AppendAt
import Derived.OwnWalk
import Derived.Laws.BytesArg
import Derived.Laws.MakeOwn
import Derived.Laws.OwnMore
import Derived.Deep.OwnRows
import Derived.Tactics
import Derived.Lib.ConvBytes
import Derived.Laws.Slices
import Derived.WalkKit
import Derived.KernelRfl
import Derived.RowKit3
import Derived.Deep.LoopGhost
import Derived.Deep.QuietTactic
import Derived.BigQuiet
import Derived.WideLaws
import Derived.Deep.DeepCutAuto
import Derived.Deep.CutBlock
import Derived.Deep.RegionHeld3
import Derived.Laws.Rows
import Derived.Lib.AppendStr
import Derived.ArgAppend
import Derived.Laws.IdiomCopy
import Derived.OrdersHeld
import Derived.Laws.BitsLemmas
import Derived.RowKit
import Derived.Shelf.Strconv.Itoa0
import Derived.Test.YthmbleephognnaaWWords
import Derived.Test.YthmbleephognnaaWLast
import Derived.Test.YthmbleephognnaaWTab
import Derived.Test.YthmbleephognnaaWFour
import Derived.Test.YthmbleephognnaaWQPut
import Derived.Test.YthmbleephognnaaWApart
import Derived.Test.YthmbleephognnaaWArr
import Derived.Test.YthmbleephognnaaWZeros
import Derived.Test.YthmbleephognnaaWFoot
import Derived.Test.YthmbleephognnaaWKept
import Derived.Test.YthmbleephognnaaWShare
import Derived.Test.YthmbleephognnaaWN
import Derived.Test.YthmbleephognnaaWFootNe
import Derived.Test.YthmbleephognnaaWAt
import Derived.Test.YthmbleephognnaaWEqStruct
import Derived.Test.YthmbleephognnaaWRepsOne
import Derived.Test.YthmbleephognnaaWInv
import Derived.Test.YthmbleephognnaaWInvWords
import Derived.Test.YthmbleephognnaaWGuard
import Derived.Test.YthmbleephognnaaWNEv
import Derived.Test.YthmbleephognnaaWMore
namespace Go.Proofs.Ythmbleephognnaa.Q
open Go.RowKit Go.Proofs.YthmbleephognnaaW.PrintWords Go.Proofs.YthmbleephognnaaW.PrintLast Go.Proofs.YthmbleephognnaaW.PrintMore
attribute [local go_sem] max2_int min2_int max_two min_two max_three min_three max_four min_four -- for this text's walks alone
set_option linter.unusedVariables false
set_option linter.unusedSimpArgs false



def errW : Option Int → Value
  | none => .nilIface
  | some c => .iface 0 (.int .i64 c)
theorem errW_none : errW none = .nilIface := rfl
theorem errW_some (c : Int) : errW (some c) = .iface 0 (.int .i64 c) := rfl

theorem info3 : (Try.prog.info? 3).map (fun i => (i.zero,i.size,i.bytes)) = some (some (.int .i64 0),1,8) := by kernel_rfl
theorem info45 : (Try.prog.info? 45).map (fun i => (i.zero,i.size,i.bytes)) = some (some (.agg #[(.int .i64 0),(.int .i64 0),(.int .i64 0),(.int .i64 0),(.int .i64 0),(.int .i64 0),(.int .i64 0),(.int .i64 0),(.int .i64 0)]),9,72) := by kernel_rfl
theorem info47 : (Try.prog.info? 47).map (fun i => (i.zero,i.size,i.bytes)) = some (some (.agg #[(.int .i64 0),(.int .i64 0)]),2,16) := by kernel_rfl
theorem info58 : (Try.prog.info? 58).map (fun i => (i.zero,i.size,i.bytes)) = some (some (.agg #[(.string ⟨#[]⟩),(.int .i64 0),(.int .i64 0),(.int .i64 0),(.slice none 0 0),(.slice none 0 0),(.int .i64 0),(.int .i64 0),(.int .i64 0),(.int .i64 0),(.int .i64 0),(.slice none 0 0)]),12,152) := by kernel_rfl
-- the values' own types
/-! #### struct type 108 -/
structure S108 where
  f0 : Int
  f1 : Int
def z108 : S108 := ⟨(0 : Int),(0 : Int)⟩
def k108 : Kd S108 := Kd.iso (Kd.pair (Kd.int .i64) (Kd.int .i64)) (fun x : S108 => (x.f0,x.f1))
theorem k108_open {w : World} {x : S108} {cs : List Value} (h : k108.K w x cs) : cs = [.int .i64 x.f0,.int .i64 x.f1] := by
  obtain ⟨_,_,rfl,rfl,rfl⟩ := h
  exact rfl
theorem k108_openM {w : World} {base : Nat} {ok : Nat → Prop} {x : S108} {cs : List Value} (h : k108.M w base ok x cs) : cs = [.int .i64 x.f0,.int .i64 x.f1] := by
  obtain ⟨_,_,rfl,rfl,rfl⟩ := h
  exact rfl
theorem k108_mk (w : World) (x : S108) : k108.K w x [.int .i64 x.f0,.int .i64 x.f1] := ⟨[.int .i64 x.f0],[.int .i64 x.f1],rfl,rfl,rfl⟩
theorem k108_mkM (w : World) (base : Nat) (ok : Nat → Prop) (x : S108) : k108.M w base ok x [.int .i64 x.f0,.int .i64 x.f1] := ⟨[.int .i64 x.f0],[.int .i64 x.f1],rfl,rfl,rfl⟩
def rd_T108 (xs : List S108) (i : Int) : S108 := xs.getD i.toNat z108
theorem at_T108 {w : World} {A : Option Addr} {n : Nat} {xs : List S108} (h : Kd.C k108 w A n xs) (i : Int) (h0 : 0 ≤ i) (h1 : i < n) : ∃ ad ,A = some ad ∧ w.cell? (ad.add (i.toNat * 2)) = some (.int .i64 (rd_T108 xs i).f0) ∧ w.cell? ⟨(ad.add (i.toNat * 2)).block,(ad.add (i.toNat * 2)).off + 1,none⟩ = some (.int .i64 (rd_T108 xs i).f1) := by
  obtain ⟨ad,c,e,_,hK,hc0⟩ := Kd.C_get h z108 i h0 h1
  have hc : ∀ j u,c[j]? = some u → w.cell? (ad.add (i.toNat * 2 + j)) = some u := hc0
  obtain rfl := k108_open hK
  exact ⟨ad,e,hc 0 _ rfl,by rw [← add_field _ _ 1 (by omega)];exact hc 1 _ rfl⟩

def rd_L3 (xs : List (List S108)) (i : Int) : (List S108) := xs.getD i.toNat ([] : List S108)
theorem at_L3 {w : World} {A : Option Addr} {n : Nat} {xs : List (List S108)} (h : Kd.C (Kd.slice 108 k108) w A n xs) (i : Int) (h0 : 0 ≤ i) (h1 : i < n) : ∃ ad A0 c0,A = some ad ∧ w.cell? (ad.add i.toNat) = some (.slice A0 (rd_L3 xs i).length c0) ∧ (rd_L3 xs i).length ≤ c0 ∧ k108.C w A0 (rd_L3 xs i).length (rd_L3 xs i) := by
  obtain ⟨ad,c,e,_,hK,hc0⟩ := Kd.C_get h ([] : List S108) i h0 h1
  have hc : ∀ j u,c[j]? = some u → w.cell? (ad.add (i.toNat * 1 + j)) = some u := hc0
  obtain ⟨A0,c0,rfl,l0,g0⟩ := hK
  exact ⟨ad,A0,c0,e,by have hq := hc 0 _ rfl;rwa [Nat.mul_one,Nat.add_zero] at hq,l0,g0⟩

def rd_L4 (xs : List (List Int)) (i : Int) : (List Int) := xs.getD i.toNat ([] : List Int)
theorem at_L4 {w : World} {A : Option Addr} {n : Nat} {xs : List (List Int)} (h : Kd.C (Kd.slice 3 (Kd.int .i64)) w A n xs) (i : Int) (h0 : 0 ≤ i) (h1 : i < n) : ∃ ad A0 c0,A = some ad ∧ w.cell? (ad.add i.toNat) = some (.slice A0 (rd_L4 xs i).length c0) ∧ (rd_L4 xs i).length ≤ c0 ∧ (Kd.int .i64).C w A0 (rd_L4 xs i).length (rd_L4 xs i) := by
  obtain ⟨ad,c,e,_,hK,hc0⟩ := Kd.C_get h ([] : List Int) i h0 h1
  have hc : ∀ j u,c[j]? = some u → w.cell? (ad.add (i.toNat * 1 + j)) = some u := hc0
  obtain ⟨A0,c0,rfl,l0,g0⟩ := hK
  exact ⟨ad,A0,c0,e,by have hq := hc 0 _ rfl;rwa [Nat.mul_one,Nat.add_zero] at hq,l0,g0⟩

/-! #### struct type 110 -/
structure S110 where
  f0 : Int
  f1 : Int
def z110 : S110 := ⟨(0 : Int),(0 : Int)⟩
def k110 : Kd S110 := Kd.iso (Kd.pair (Kd.int .i64) (Kd.int .i64)) (fun x : S110 => (x.f0,x.f1))
theorem k110_open {w : World} {x : S110} {cs : List Value} (h : k110.K w x cs) : cs = [.int .i64 x.f0,.int .i64 x.f1] := by
  obtain ⟨_,_,rfl,rfl,rfl⟩ := h
  exact rfl
theorem k110_openM {w : World} {base : Nat} {ok : Nat → Prop} {x : S110} {cs : List Value} (h : k110.M w base ok x cs) : cs = [.int .i64 x.f0,.int .i64 x.f1] := by
  obtain ⟨_,_,rfl,rfl,rfl⟩ := h
  exact rfl
theorem k110_mk (w : World) (x : S110) : k110.K w x [.int .i64 x.f0,.int .i64 x.f1] := ⟨[.int .i64 x.f0],[.int .i64 x.f1],rfl,rfl,rfl⟩
theorem k110_mkM (w : World) (base : Nat) (ok : Nat → Prop) (x : S110) : k110.M w base ok x [.int .i64 x.f0,.int .i64 x.f1] := ⟨[.int .i64 x.f0],[.int .i64 x.f1],rfl,rfl,rfl⟩
def rd_T110 (xs : List S110) (i : Int) : S110 := xs.getD i.toNat z110
theorem at_T110 {w : World} {A : Option Addr} {n : Nat} {xs : List S110} (h : Kd.C k110 w A n xs) (i : Int) (h0 : 0 ≤ i) (h1 : i < n) : ∃ ad ,A = some ad ∧ w.cell? (ad.add (i.toNat * 2)) = some (.int .i64 (rd_T110 xs i).f0) ∧ w.cell? ⟨(ad.add (i.toNat * 2)).block,(ad.add (i.toNat * 2)).off + 1,none⟩ = some (.int .i64 (rd_T110 xs i).f1) := by
  obtain ⟨ad,c,e,_,hK,hc0⟩ := Kd.C_get h z110 i h0 h1
  have hc : ∀ j u,c[j]? = some u → w.cell? (ad.add (i.toNat * 2 + j)) = some u := hc0
  obtain rfl := k110_open hK
  exact ⟨ad,e,hc 0 _ rfl,by rw [← add_field _ _ 1 (by omega)];exact hc 1 _ rfl⟩

def rd_L6 (xs : List (List S110)) (i : Int) : (List S110) := xs.getD i.toNat ([] : List S110)
theorem at_L6 {w : World} {A : Option Addr} {n : Nat} {xs : List (List S110)} (h : Kd.C (Kd.slice 110 k110) w A n xs) (i : Int) (h0 : 0 ≤ i) (h1 : i < n) : ∃ ad A0 c0,A = some ad ∧ w.cell? (ad.add i.toNat) = some (.slice A0 (rd_L6 xs i).length c0) ∧ (rd_L6 xs i).length ≤ c0 ∧ k110.C w A0 (rd_L6 xs i).length (rd_L6 xs i) := by
  obtain ⟨ad,c,e,_,hK,hc0⟩ := Kd.C_get h ([] : List S110) i h0 h1
  have hc : ∀ j u,c[j]? = some u → w.cell? (ad.add (i.toNat * 1 + j)) = some u := hc0
  obtain ⟨A0,c0,rfl,l0,g0⟩ := hK
  exact ⟨ad,A0,c0,e,by have hq := hc 0 _ rfl;rwa [Nat.mul_one,Nat.add_zero] at hq,l0,g0⟩

/-! #### struct type 58 -/
structure S58 where
  f0 : ByteArray
  f1 : Int
  f2 : Int
  f3 : Int
  f4 : (List S108)
  f5 : (List Int)
  f6 : Int
  f7 : Int
  f8 : Int
  f9 : Int
  f10 : Int
  f11 : (List S110)
def z58 : S58 := ⟨(⟨#[]⟩ : ByteArray),(0 : Int),(0 : Int),(0 : Int),([] : List S108),([] : List Int),(0 : Int),(0 : Int),(0 : Int),(0 : Int),(0 : Int),([] : List S110)⟩
def k58 : Kd S58 := Kd.iso (Kd.pair Kd.string (Kd.pair (Kd.int .i64) (Kd.pair (Kd.int .i64) (Kd.pair (Kd.int .i64) (Kd.pair (Kd.slice 108 k108) (Kd.pair (Kd.slice 3 (Kd.int .i64)) (Kd.pair (Kd.int .i64) (Kd.pair (Kd.int .i64) (Kd.pair (Kd.int .i64) (Kd.pair (Kd.int .i64) (Kd.pair (Kd.int .i64) (Kd.slice 110 k110)))))))))))) (fun x : S58 => (x.f0,x.f1,x.f2,x.f3,x.f4,x.f5,x.f6,x.f7,x.f8,x.f9,x.f10,x.f11))
theorem k58_open {w : World} {x : S58} {cs : List Value} (h : k58.K w x cs) : ∃ A4 c4 A5 c5 A11 c11,cs = [.string x.f0,.int .i64 x.f1,.int .i64 x.f2,.int .i64 x.f3,.slice A4 x.f4.length c4,.slice A5 x.f5.length c5,.int .i64 x.f6,.int .i64 x.f7,.int .i64 x.f8,.int .i64 x.f9,.int .i64 x.f10,.slice A11 x.f11.length c11] ∧ x.f4.length ≤ c4 ∧ k108.C w A4 x.f4.length x.f4 ∧ x.f5.length ≤ c5 ∧ (Kd.int .i64).C w A5 x.f5.length x.f5 ∧ x.f11.length ≤ c11 ∧ k110.C w A11 x.f11.length x.f11 := by
  obtain ⟨_,_,rfl,rfl,⟨_,_,rfl,rfl,⟨_,_,rfl,rfl,⟨_,_,rfl,rfl,⟨_,_,rfl,⟨A4,c4,rfl,l4,g4⟩,⟨_,_,rfl,⟨A5,c5,rfl,l5,g5⟩,⟨_,_,rfl,rfl,⟨_,_,rfl,rfl,⟨_,_,rfl,rfl,⟨_,_,rfl,rfl,⟨_,_,rfl,rfl,⟨A11,c11,rfl,l11,g11⟩⟩⟩⟩⟩⟩⟩⟩⟩⟩⟩⟩ := h
  exact ⟨A4,c4,A5,c5,A11,c11,rfl,l4,g4,l5,g5,l11,g11⟩
theorem k58_openM {w : World} {base : Nat} {ok : Nat → Prop} {x : S58} {cs : List Value} (h : k58.M w base ok x cs) : ∃ v4 v5 v11,cs = [.string x.f0,.int .i64 x.f1,.int .i64 x.f2,.int .i64 x.f3,v4,v5,.int .i64 x.f6,.int .i64 x.f7,.int .i64 x.f8,.int .i64 x.f9,.int .i64 x.f10,v11] ∧ k108.R 108 w base ok v4 x.f4 ∧ (Kd.int .i64).R 3 w base ok v5 x.f5 ∧ k110.R 110 w base ok v11 x.f11 := by
  obtain ⟨_,_,rfl,rfl,⟨_,_,rfl,rfl,⟨_,_,rfl,rfl,⟨_,_,rfl,rfl,⟨_,_,rfl,⟨v4,rfl,g4⟩,⟨_,_,rfl,⟨v5,rfl,g5⟩,⟨_,_,rfl,rfl,⟨_,_,rfl,rfl,⟨_,_,rfl,rfl,⟨_,_,rfl,rfl,⟨_,_,rfl,rfl,⟨v11,rfl,g11⟩⟩⟩⟩⟩⟩⟩⟩⟩⟩⟩⟩ := h
  exact ⟨v4,v5,v11,rfl,g4,g5,g11⟩
theorem k58_mk (w : World) (x : S58) {A4 : Option Addr} {c4 : Nat} (l4 : x.f4.length ≤ c4) (g4 : k108.C w A4 x.f4.length x.f4) {A5 : Option Addr} {c5 : Nat} (l5 : x.f5.length ≤ c5) (g5 : (Kd.int .i64).C w A5 x.f5.length x.f5) {A11 : Option Addr} {c11 : Nat} (l11 : x.f11.length ≤ c11) (g11 : k110.C w A11 x.f11.length x.f11) : k58.K w x [.string x.f0,.int .i64 x.f1,.int .i64 x.f2,.int .i64 x.f3,.slice A4 x.f4.length c4,.slice A5 x.f5.length c5,.int .i64 x.f6,.int .i64 x.f7,.int .i64 x.f8,.int .i64 x.f9,.int .i64 x.f10,.slice A11 x.f11.length c11] := ⟨[.string x.f0],[.int .i64 x.f1,.int .i64 x.f2,.int .i64 x.f3,.slice A4 x.f4.length c4,.slice A5 x.f5.length c5,.int .i64 x.f6,.int .i64 x.f7,.int .i64 x.f8,.int .i64 x.f9,.int .i64 x.f10,.slice A11 x.f11.length c11],rfl,rfl,⟨[.int .i64 x.f1],[.int .i64 x.f2,.int .i64 x.f3,.slice A4 x.f4.length c4,.slice A5 x.f5.length c5,.int .i64 x.f6,.int .i64 x.f7,.int .i64 x.f8,.int .i64 x.f9,.int .i64 x.f10,.slice A11 x.f11.length c11],rfl,rfl,⟨[.int .i64 x.f2],[.int .i64 x.f3,.slice A4 x.f4.length c4,.slice A5 x.f5.length c5,.int .i64 x.f6,.int .i64 x.f7,.int .i64 x.f8,.int .i64 x.f9,.int .i64 x.f10,.slice A11 x.f11.length c11],rfl,rfl,⟨[.int .i64 x.f3],[.slice A4 x.f4.length c4,.slice A5 x.f5.length c5,.int .i64 x.f6,.int .i64 x.f7,.int .i64 x.f8,.int .i64 x.f9,.int .i64 x.f10,.slice A11 x.f11.length c11],rfl,rfl,⟨[.slice A4 x.f4.length c4],[.slice A5 x.f5.length c5,.int .i64 x.f6,.int .i64 x.f7,.int .i64 x.f8,.int .i64 x.f9,.int .i64 x.f10,.slice A11 x.f11.length c11],rfl,⟨A4,c4,rfl,l4,g4⟩,⟨[.slice A5 x.f5.length c5],[.int .i64 x.f6,.int .i64 x.f7,.int .i64 x.f8,.int .i64 x.f9,.int .i64 x.f10,.slice A11 x.f11.length c11],rfl,⟨A5,c5,rfl,l5,g5⟩,⟨[.int .i64 x.f6],[.int .i64 x.f7,.int .i64 x.f8,.int .i64 x.f9,.int .i64 x.f10,.slice A11 x.f11.length c11],rfl,rfl,⟨[.int .i64 x.f7],[.int .i64 x.f8,.int .i64 x.f9,.int .i64 x.f10,.slice A11 x.f11.length c11],rfl,rfl,⟨[.int .i64 x.f8],[.int .i64 x.f9,.int .i64 x.f10,.slice A11 x.f11.length c11],rfl,rfl,⟨[.int .i64 x.f9],[.int .i64 x.f10,.slice A11 x.f11.length c11],rfl,rfl,⟨[.int .i64 x.f10],[.slice A11 x.f11.length c11],rfl,rfl,⟨A11,c11,rfl,l11,g11⟩⟩⟩⟩⟩⟩⟩⟩⟩⟩⟩⟩
theorem k58_mkM (w : World) (base : Nat) (ok : Nat → Prop) (x : S58) {v4 : Value} (g4 : k108.R 108 w base ok v4 x.f4) {v5 : Value} (g5 : (Kd.int .i64).R 3 w base ok v5 x.f5) {v11 : Value} (g11 : k110.R 110 w base ok v11 x.f11) : k58.M w base ok x [.string x.f0,.int .i64 x.f1,.int .i64 x.f2,.int .i64 x.f3,v4,v5,.int .i64 x.f6,.int .i64 x.f7,.int .i64 x.f8,.int .i64 x.f9,.int .i64 x.f10,v11] := ⟨[.string x.f0],[.int .i64 x.f1,.int .i64 x.f2,.int .i64 x.f3,v4,v5,.int .i64 x.f6,.int .i64 x.f7,.int .i64 x.f8,.int .i64 x.f9,.int .i64 x.f10,v11],rfl,rfl,⟨[.int .i64 x.f1],[.int .i64 x.f2,.int .i64 x.f3,v4,v5,.int .i64 x.f6,.int .i64 x.f7,.int .i64 x.f8,.int .i64 x.f9,.int .i64 x.f10,v11],rfl,rfl,⟨[.int .i64 x.f2],[.int .i64 x.f3,v4,v5,.int .i64 x.f6,.int .i64 x.f7,.int .i64 x.f8,.int .i64 x.f9,.int .i64 x.f10,v11],rfl,rfl,⟨[.int .i64 x.f3],[v4,v5,.int .i64 x.f6,.int .i64 x.f7,.int .i64 x.f8,.int .i64 x.f9,.int .i64 x.f10,v11],rfl,rfl,⟨[v4],[v5,.int .i64 x.f6,.int .i64 x.f7,.int .i64 x.f8,.int .i64 x.f9,.int .i64 x.f10,v11],rfl,⟨v4,rfl,g4⟩,⟨[v5],[.int .i64 x.f6,.int .i64 x.f7,.int .i64 x.f8,.int .i64 x.f9,.int .i64 x.f10,v11],rfl,⟨v5,rfl,g5⟩,⟨[.int .i64 x.f6],[.int .i64 x.f7,.int .i64 x.f8,.int .i64 x.f9,.int .i64 x.f10,v11],rfl,rfl,⟨[.int .i64 x.f7],[.int .i64 x.f8,.int .i64 x.f9,.int .i64 x.f10,v11],rfl,rfl,⟨[.int .i64 x.f8],[.int .i64 x.f9,.int .i64 x.f10,v11],rfl,rfl,⟨[.int .i64 x.f9],[.int .i64 x.f10,v11],rfl,rfl,⟨[.int .i64 x.f10],[v11],rfl,rfl,⟨v11,rfl,g11⟩⟩⟩⟩⟩⟩⟩⟩⟩⟩⟩⟩
def rd_T58 (xs : List S58) (i : Int) : S58 := xs.getD i.toNat z58
theorem at_T58 {w : World} {A : Option Addr} {n : Nat} {xs : List S58} (h : Kd.C k58 w A n xs) (i : Int) (h0 : 0 ≤ i) (h1 : i < n) : ∃ ad A4 c4 A5 c5 A11 c11,A = some ad ∧ w.cell? (ad.add (i.toNat * 12)) = some (.string (rd_T58 xs i).f0) ∧ w.cell? ⟨(ad.add (i.toNat * 12)).block,(ad.add (i.toNat * 12)).off + 1,none⟩ = some (.int .i64 (rd_T58 xs i).f1) ∧ w.cell? ⟨(ad.add (i.toNat * 12)).block,(ad.add (i.toNat * 12)).off + 2,none⟩ = some (.int .i64 (rd_T58 xs i).f2) ∧ w.cell? ⟨(ad.add (i.toNat * 12)).block,(ad.add (i.toNat * 12)).off + 3,none⟩ = some (.int .i64 (rd_T58 xs i).f3) ∧ w.cell? ⟨(ad.add (i.toNat * 12)).block,(ad.add (i.toNat * 12)).off + 4,none⟩ = some (.slice A4 (rd_T58 xs i).f4.length c4) ∧ w.cell? ⟨(ad.add (i.toNat * 12)).block,(ad.add (i.toNat * 12)).off + 5,none⟩ = some (.slice A5 (rd_T58 xs i).f5.length c5) ∧ w.cell? ⟨(ad.add (i.toNat * 12)).block,(ad.add (i.toNat * 12)).off + 6,none⟩ = some (.int .i64 (rd_T58 xs i).f6) ∧ w.cell? ⟨(ad.add (i.toNat * 12)).block,(ad.add (i.toNat * 12)).off + 7,none⟩ = some (.int .i64 (rd_T58 xs i).f7) ∧ w.cell? ⟨(ad.add (i.toNat * 12)).block,(ad.add (i.toNat * 12)).off + 8,none⟩ = some (.int .i64 (rd_T58 xs i).f8) ∧ w.cell? ⟨(ad.add (i.toNat * 12)).block,(ad.add (i.toNat * 12)).off + 9,none⟩ = some (.int .i64 (rd_T58 xs i).f9) ∧ w.cell? ⟨(ad.add (i.toNat * 12)).block,(ad.add (i.toNat * 12)).off + 10,none⟩ = some (.int .i64 (rd_T58 xs i).f10) ∧ w.cell? ⟨(ad.add (i.toNat * 12)).block,(ad.add (i.toNat * 12)).off + 11,none⟩ = some (.slice A11 (rd_T58 xs i).f11.length c11) ∧ (rd_T58 xs i).f4.length ≤ c4 ∧ k108.C w A4 (rd_T58 xs i).f4.length (rd_T58 xs i).f4 ∧ (rd_T58 xs i).f5.length ≤ c5 ∧ (Kd.int .i64).C w A5 (rd_T58 xs i).f5.length (rd_T58 xs i).f5 ∧ (rd_T58 xs i).f11.length ≤ c11 ∧ k110.C w A11 (rd_T58 xs i).f11.length (rd_T58 xs i).f11 := by
  obtain ⟨ad,c,e,_,hK,hc0⟩ := Kd.C_get h z58 i h0 h1
  have hc : ∀ j u,c[j]? = some u → w.cell? (ad.add (i.toNat * 12 + j)) = some u := hc0
  obtain ⟨A4,c4,A5,c5,A11,c11,rfl,l4,g4,l5,g5,l11,g11⟩ := k58_open hK
  exact ⟨ad,A4,c4,A5,c5,A11,c11,e,hc 0 _ rfl,by rw [← add_field _ _ 1 (by omega)];exact hc 1 _ rfl,by rw [← add_field _ _ 2 (by omega)];exact hc 2 _ rfl,by rw [← add_field _ _ 3 (by omega)];exact hc 3 _ rfl,by rw [← add_field _ _ 4 (by omega)];exact hc 4 _ rfl,by rw [← add_field _ _ 5 (by omega)];exact hc 5 _ rfl,by rw [← add_field _ _ 6 (by omega)];exact hc 6 _ rfl,by rw [← add_field _ _ 7 (by omega)];exact hc 7 _ rfl,by rw [← add_field _ _ 8 (by omega)];exact hc 8 _ rfl,by rw [← add_field _ _ 9 (by omega)];exact hc 9 _ rfl,by rw [← add_field _ _ 10 (by omega)];exact hc 10 _ rfl,by rw [← add_field _ _ 11 (by omega)];exact hc 11 _ rfl,l4,g4,l5,g5,l11,g11⟩

/-! #### struct type 96 -/
structure S96 where
  f0 : (List S108)
  f1 : (List S108)
def z96 : S96 := ⟨([] : List S108),([] : List S108)⟩
def k96 : Kd S96 := Kd.iso (Kd.pair (Kd.slice 108 k108) (Kd.slice 108 k108)) (fun x : S96 => (x.f0,x.f1))
theorem k96_open {w : World} {x : S96} {cs : List Value} (h : k96.K w x cs) : ∃ A0 c0 A1 c1,cs = [.slice A0 x.f0.length c0,.slice A1 x.f1.length c1] ∧ x.f0.length ≤ c0 ∧ k108.C w A0 x.f0.length x.f0 ∧ x.f1.length ≤ c1 ∧ k108.C w A1 x.f1.length x.f1 := by
  obtain ⟨_,_,rfl,⟨A0,c0,rfl,l0,g0⟩,⟨A1,c1,rfl,l1,g1⟩⟩ := h
  exact ⟨A0,c0,A1,c1,rfl,l0,g0,l1,g1⟩
theorem k96_openM {w : World} {base : Nat} {ok : Nat → Prop} {x : S96} {cs : List Value} (h : k96.M w base ok x cs) : ∃ v0 v1,cs = [v0,v1] ∧ k108.R 108 w base ok v0 x.f0 ∧ k108.R 108 w base ok v1 x.f1 := by
  obtain ⟨_,_,rfl,⟨v0,rfl,g0⟩,⟨v1,rfl,g1⟩⟩ := h
  exact ⟨v0,v1,rfl,g0,g1⟩
theorem k96_mk (w : World) (x : S96) {A0 : Option Addr} {c0 : Nat} (l0 : x.f0.length ≤ c0) (g0 : k108.C w A0 x.f0.length x.f0) {A1 : Option Addr} {c1 : Nat} (l1 : x.f1.length ≤ c1) (g1 : k108.C w A1 x.f1.length x.f1) : k96.K w x [.slice A0 x.f0.length c0,.slice A1 x.f1.length c1] := ⟨[.slice A0 x.f0.length c0],[.slice A1 x.f1.length c1],rfl,⟨A0,c0,rfl,l0,g0⟩,⟨A1,c1,rfl,l1,g1⟩⟩
theorem k96_mkM (w : World) (base : Nat) (ok : Nat → Prop) (x : S96) {v0 : Value} (g0 : k108.R 108 w base ok v0 x.f0) {v1 : Value} (g1 : k108.R 108 w base ok v1 x.f1) : k96.M w base ok x [v0,v1] := ⟨[v0],[v1],rfl,⟨v0,rfl,g0⟩,⟨v1,rfl,g1⟩⟩
def rd_T96 (xs : List S96) (i : Int) : S96 := xs.getD i.toNat z96
theorem at_T96 {w : World} {A : Option Addr} {n : Nat} {xs : List S96} (h : Kd.C k96 w A n xs) (i : Int) (h0 : 0 ≤ i) (h1 : i < n) : ∃ ad A0 c0 A1 c1,A = some ad ∧ w.cell? (ad.add (i.toNat * 2)) = some (.slice A0 (rd_T96 xs i).f0.length c0) ∧ w.cell? ⟨(ad.add (i.toNat * 2)).block,(ad.add (i.toNat * 2)).off + 1,none⟩ = some (.slice A1 (rd_T96 xs i).f1.length c1) ∧ (rd_T96 xs i).f0.length ≤ c0 ∧ k108.C w A0 (rd_T96 xs i).f0.length (rd_T96 xs i).f0 ∧ (rd_T96 xs i).f1.length ≤ c1 ∧ k108.C w A1 (rd_T96 xs i).f1.length (rd_T96 xs i).f1 := by
  obtain ⟨ad,c,e,_,hK,hc0⟩ := Kd.C_get h z96 i h0 h1
  have hc : ∀ j u,c[j]? = some u → w.cell? (ad.add (i.toNat * 2 + j)) = some u := hc0
  obtain ⟨A0,c0,A1,c1,rfl,l0,g0,l1,g1⟩ := k96_open hK
  exact ⟨ad,A0,c0,A1,c1,e,hc 0 _ rfl,by rw [← add_field _ _ 1 (by omega)];exact hc 1 _ rfl,l0,g0,l1,g1⟩

/-! #### struct type 98 -/
structure S98 where
  f0 : ByteArray
  f1 : Int
  f2 : Int
  f3 : Int
  f4 : (List S108)
  f5 : S96
  f6 : Int
  f7 : Int
  f8 : Int
  f9 : Int
  f10 : Int
  f11 : Int
  f12 : Int
  f13 : Int
  f14 : Int
  f15 : Int
  f16 : Int
def z98 : S98 := ⟨(⟨#[]⟩ : ByteArray),(0 : Int),(0 : Int),(0 : Int),([] : List S108),z96,(0 : Int),(0 : Int),(0 : Int),(0 : Int),(0 : Int),(0 : Int),(0 : Int),(0 : Int),(0 : Int),(0 : Int),(0 : Int)⟩
def k98 : Kd S98 := Kd.iso (Kd.pair Kd.string (Kd.pair (Kd.int .i64) (Kd.pair (Kd.int .i64) (Kd.pair (Kd.int .i64) (Kd.pair (Kd.slice 108 k108) (Kd.pair k96 (Kd.pair (Kd.int .i64) (Kd.pair (Kd.int .i64) (Kd.pair (Kd.int .i64) (Kd.pair (Kd.int .i64) (Kd.pair (Kd.int .i64) (Kd.pair (Kd.int .i64) (Kd.pair (Kd.int .i64) (Kd.pair (Kd.int .i64) (Kd.pair (Kd.int .i64) (Kd.pair (Kd.int .i64) (Kd.int .i64))))))))))))))))) (fun x : S98 => (x.f0,x.f1,x.f2,x.f3,x.f4,x.f5,x.f6,x.f7,x.f8,x.f9,x.f10,x.f11,x.f12,x.f13,x.f14,x.f15,x.f16))
theorem k98_open {w : World} {x : S98} {cs : List Value} (h : k98.K w x cs) : ∃ A4 c4 A5 c5 A6 c6,cs = [.string x.f0,.int .i64 x.f1,.int .i64 x.f2,.int .i64 x.f3,.slice A4 x.f4.length c4,.slice A5 x.f5.f0.length c5,.slice A6 x.f5.f1.length c6,.int .i64 x.f6,.int .i64 x.f7,.int .i64 x.f8,.int .i64 x.f9,.int .i64 x.f10,.int .i64 x.f11,.int .i64 x.f12,.int .i64 x.f13,.int .i64 x.f14,.int .i64 x.f15,.int .i64 x.f16] ∧ x.f4.length ≤ c4 ∧ k108.C w A4 x.f4.length x.f4 ∧ x.f5.f0.length ≤ c5 ∧ k108.C w A5 x.f5.f0.length x.f5.f0 ∧ x.f5.f1.length ≤ c6 ∧ k108.C w A6 x.f5.f1.length x.f5.f1 := by
  obtain ⟨_,_,rfl,rfl,⟨_,_,rfl,rfl,⟨_,_,rfl,rfl,⟨_,_,rfl,rfl,⟨_,_,rfl,⟨A4,c4,rfl,l4,g4⟩,⟨_,_,rfl,s5,⟨_,_,rfl,rfl,⟨_,_,rfl,rfl,⟨_,_,rfl,rfl,⟨_,_,rfl,rfl,⟨_,_,rfl,rfl,⟨_,_,rfl,rfl,⟨_,_,rfl,rfl,⟨_,_,rfl,rfl,⟨_,_,rfl,rfl,⟨_,_,rfl,rfl,rfl⟩⟩⟩⟩⟩⟩⟩⟩⟩⟩⟩⟩⟩⟩⟩⟩ := h
  obtain ⟨A5,c5,A6,c6,rfl,l5,g5,l6,g6⟩ := k96_open s5
  exact ⟨A4,c4,A5,c5,A6,c6,rfl,l4,g4,l5,g5,l6,g6⟩
theorem k98_openM {w : World} {base : Nat} {ok : Nat → Prop} {x : S98} {cs : List Value} (h : k98.M w base ok x cs) : ∃ v4 v5 v6,cs = [.string x.f0,.int .i64 x.f1,.int .i64 x.f2,.int .i64 x.f3,v4,v5,v6,.int .i64 x.f6,.int .i64 x.f7,.int .i64 x.f8,.int .i64 x.f9,.int .i64 x.f10,.int .i64 x.f11,.int .i64 x.f12,.int .i64 x.f13,.int .i64 x.f14,.int .i64 x.f15,.int .i64 x.f16] ∧ k108.R 108 w base ok v4 x.f4 ∧ k108.R 108 w base ok v5 x.f5.f0 ∧ k108.R 108 w base ok v6 x.f5.f1 := by
  obtain ⟨_,_,rfl,rfl,⟨_,_,rfl,rfl,⟨_,_,rfl,rfl,⟨_,_,rfl,rfl,⟨_,_,rfl,⟨v4,rfl,g4⟩,⟨_,_,rfl,s5,⟨_,_,rfl,rfl,⟨_,_,rfl,rfl,⟨_,_,rfl,rfl,⟨_,_,rfl,rfl,⟨_,_,rfl,rfl,⟨_,_,rfl,rfl,⟨_,_,rfl,rfl,⟨_,_,rfl,rfl,⟨_,_,rfl,rfl,⟨_,_,rfl,rfl,rfl⟩⟩⟩⟩⟩⟩⟩⟩⟩⟩⟩⟩⟩⟩⟩⟩ := h
  obtain ⟨v5,v6,rfl,g5,g6⟩ := k96_openM s5
  exact ⟨v4,v5,v6,rfl,g4,g5,g6⟩
theorem k98_mk (w : World) (x : S98) {A4 : Option Addr} {c4 : Nat} (l4 : x.f4.length ≤ c4) (g4 : k108.C w A4 x.f4.length x.f4) {A5 : Option Addr} {c5 : Nat} (l5 : x.f5.f0.length ≤ c5) (g5 : k108.C w A5 x.f5.f0.length x.f5.f0) {A6 : Option Addr} {c6 : Nat} (l6 : x.f5.f1.length ≤ c6) (g6 : k108.C w A6 x.f5.f1.length x.f5.f1) : k98.K w x [.string x.f0,.int .i64 x.f1,.int .i64 x.f2,.int .i64 x.f3,.slice A4 x.f4.length c4,.slice A5 x.f5.f0.length c5,.slice A6 x.f5.f1.length c6,.int .i64 x.f6,.int .i64 x.f7,.int .i64 x.f8,.int .i64 x.f9,.int .i64 x.f10,.int .i64 x.f11,.int .i64 x.f12,.int .i64 x.f13,.int .i64 x.f14,.int .i64 x.f15,.int .i64 x.f16] := ⟨[.string x.f0],[.int .i64 x.f1,.int .i64 x.f2,.int .i64 x.f3,.slice A4 x.f4.length c4,.slice A5 x.f5.f0.length c5,.slice A6 x.f5.f1.length c6,.int .i64 x.f6,.int .i64 x.f7,.int .i64 x.f8,.int .i64 x.f9,.int .i64 x.f10,.int .i64 x.f11,.int .i64 x.f12,.int .i64 x.f13,.int .i64 x.f14,.int .i64 x.f15,.int .i64 x.f16],rfl,rfl,⟨[.int .i64 x.f1],[.int .i64 x.f2,.int .i64 x.f3,.slice A4 x.f4.length c4,.slice A5 x.f5.f0.length c5,.slice A6 x.f5.f1.length c6,.int .i64 x.f6,.int .i64 x.f7,.int .i64 x.f8,.int .i64 x.f9,.int .i64 x.f10,.int .i64 x.f11,.int .i64 x.f12,.int .i64 x.f13,.int .i64 x.f14,.int .i64 x.f15,.int .i64 x.f16],rfl,rfl,⟨[.int .i64 x.f2],[.int .i64 x.f3,.slice A4 x.f4.length c4,.slice A5 x.f5.f0.length c5,.slice A6 x.f5.f1.length c6,.int .i64 x.f6,.int .i64 x.f7,.int .i64 x.f8,.int .i64 x.f9,.int .i64 x.f10,.int .i64 x.f11,.int .i64 x.f12,.int .i64 x.f13,.int .i64 x.f14,.int .i64 x.f15,.int .i64 x.f16],rfl,rfl,⟨[.int .i64 x.f3],[.slice A4 x.f4.length c4,.slice A5 x.f5.f0.length c5,.slice A6 x.f5.f1.length c6,.int .i64 x.f6,.int .i64 x.f7,.int .i64 x.f8,.int .i64 x.f9,.int .i64 x.f10,.int .i64 x.f11,.int .i64 x.f12,.int .i64 x.f13,.int .i64 x.f14,.int .i64 x.f15,.int .i64 x.f16],rfl,rfl,⟨[.slice A4 x.f4.length c4],[.slice A5 x.f5.f0.length c5,.slice A6 x.f5.f1.length c6,.int .i64 x.f6,.int .i64 x.f7,.int .i64 x.f8,.int .i64 x.f9,.int .i64 x.f10,.int .i64 x.f11,.int .i64 x.f12,.int .i64 x.f13,.int .i64 x.f14,.int .i64 x.f15,.int .i64 x.f16],rfl,⟨A4,c4,rfl,l4,g4⟩,⟨[.slice A5 x.f5.f0.length c5,.slice A6 x.f5.f1.length c6],[.int .i64 x.f6,.int .i64 x.f7,.int .i64 x.f8,.int .i64 x.f9,.int .i64 x.f10,.int .i64 x.f11,.int .i64 x.f12,.int .i64 x.f13,.int .i64 x.f14,.int .i64 x.f15,.int .i64 x.f16],rfl,(k96_mk w x.f5 l5 g5 l6 g6),⟨[.int .i64 x.f6],[.int .i64 x.f7,.int .i64 x.f8,.int .i64 x.f9,.int .i64 x.f10,.int .i64 x.f11,.int .i64 x.f12,.int .i64 x.f13,.int .i64 x.f14,.int .i64 x.f15,.int .i64 x.f16],rfl,rfl,⟨[.int .i64 x.f7],[.int .i64 x.f8,.int .i64 x.f9,.int .i64 x.f10,.int .i64 x.f11,.int .i64 x.f12,.int .i64 x.f13,.int .i64 x.f14,.int .i64 x.f15,.int .i64 x.f16],rfl,rfl,⟨[.int .i64 x.f8],[.int .i64 x.f9,.int .i64 x.f10,.int .i64 x.f11,.int .i64 x.f12,.int .i64 x.f13,.int .i64 x.f14,.int .i64 x.f15,.int .i64 x.f16],rfl,rfl,⟨[.int .i64 x.f9],[.int .i64 x.f10,.int .i64 x.f11,.int .i64 x.f12,.int .i64 x.f13,.int .i64 x.f14,.int .i64 x.f15,.int .i64 x.f16],rfl,rfl,⟨[.int .i64 x.f10],[.int .i64 x.f11,.int .i64 x.f12,.int .i64 x.f13,.int .i64 x.f14,.int .i64 x.f15,.int .i64 x.f16],rfl,rfl,⟨[.int .i64 x.f11],[.int .i64 x.f12,.int .i64 x.f13,.int .i64 x.f14,.int .i64 x.f15,.int .i64 x.f16],rfl,rfl,⟨[.int .i64 x.f12],[.int .i64 x.f13,.int .i64 x.f14,.int .i64 x.f15,.int .i64 x.f16],rfl,rfl,⟨[.int .i64 x.f13],[.int .i64 x.f14,.int .i64 x.f15,.int .i64 x.f16],rfl,rfl,⟨[.int .i64 x.f14],[.int .i64 x.f15,.int .i64 x.f16],rfl,rfl,⟨[.int .i64 x.f15],[.int .i64 x.f16],rfl,rfl,rfl⟩⟩⟩⟩⟩⟩⟩⟩⟩⟩⟩⟩⟩⟩⟩⟩
theorem k98_mkM (w : World) (base : Nat) (ok : Nat → Prop) (x : S98) {v4 : Value} (g4 : k108.R 108 w base ok v4 x.f4) {v5 : Value} (g5 : k108.R 108 w base ok v5 x.f5.f0) {v6 : Value} (g6 : k108.R 108 w base ok v6 x.f5.f1) : k98.M w base ok x [.string x.f0,.int .i64 x.f1,.int .i64 x.f2,.int .i64 x.f3,v4,v5,v6,.int .i64 x.f6,.int .i64 x.f7,.int .i64 x.f8,.int .i64 x.f9,.int .i64 x.f10,.int .i64 x.f11,.int .i64 x.f12,.int .i64 x.f13,.int .i64 x.f14,.int .i64 x.f15,.int .i64 x.f16] := ⟨[.string x.f0],[.int .i64 x.f1,.int .i64 x.f2,.int .i64 x.f3,v4,v5,v6,.int .i64 x.f6,.int .i64 x.f7,.int .i64 x.f8,.int .i64 x.f9,.int .i64 x.f10,.int .i64 x.f11,.int .i64 x.f12,.int .i64 x.f13,.int .i64 x.f14,.int .i64 x.f15,.int .i64 x.f16],rfl,rfl,⟨[.int .i64 x.f1],[.int .i64 x.f2,.int .i64 x.f3,v4,v5,v6,.int .i64 x.f6,.int .i64 x.f7,.int .i64 x.f8,.int .i64 x.f9,.int .i64 x.f10,.int .i64 x.f11,.int .i64 x.f12,.int .i64 x.f13,.int .i64 x.f14,.int .i64 x.f15,.int .i64 x.f16],rfl,rfl,⟨[.int .i64 x.f2],[.int .i64 x.f3,v4,v5,v6,.int .i64 x.f6,.int .i64 x.f7,.int .i64 x.f8,.int .i64 x.f9,.int .i64 x.f10,.int .i64 x.f11,.int .i64 x.f12,.int .i64 x.f13,.int .i64 x.f14,.int .i64 x.f15,.int .i64 x.f16],rfl,rfl,⟨[.int .i64 x.f3],[v4,v5,v6,.int .i64 x.f6,.int .i64 x.f7,.int .i64 x.f8,.int .i64 x.f9,.int .i64 x.f10,.int .i64 x.f11,.int .i64 x.f12,.int .i64 x.f13,.int .i64 x.f14,.int .i64 x.f15,.int .i64 x.f16],rfl,rfl,⟨[v4],[v5,v6,.int .i64 x.f6,.int .i64 x.f7,.int .i64 x.f8,.int .i64 x.f9,.int .i64 x.f10,.int .i64 x.f11,.int .i64 x.f12,.int .i64 x.f13,.int .i64 x.f14,.int .i64 x.f15,.int .i64 x.f16],rfl,⟨v4,rfl,g4⟩,⟨[v5,v6],[.int .i64 x.f6,.int .i64 x.f7,.int .i64 x.f8,.int .i64 x.f9,.int .i64 x.f10,.int .i64 x.f11,.int .i64 x.f12,.int .i64 x.f13,.int .i64 x.f14,.int .i64 x.f15,.int .i64 x.f16],rfl,(k96_mkM w base ok x.f5 g5 g6),⟨[.int .i64 x.f6],[.int .i64 x.f7,.int .i64 x.f8,.int .i64 x.f9,.int .i64 x.f10,.int .i64 x.f11,.int .i64 x.f12,.int .i64 x.f13,.int .i64 x.f14,.int .i64 x.f15,.int .i64 x.f16],rfl,rfl,⟨[.int .i64 x.f7],[.int .i64 x.f8,.int .i64 x.f9,.int .i64 x.f10,.int .i64 x.f11,.int .i64 x.f12,.int .i64 x.f13,.int .i64 x.f14,.int .i64 x.f15,.int .i64 x.f16],rfl,rfl,⟨[.int .i64 x.f8],[.int .i64 x.f9,.int .i64 x.f10,.int .i64 x.f11,.int .i64 x.f12,.int .i64 x.f13,.int .i64 x.f14,.int .i64 x.f15,.int .i64 x.f16],rfl,rfl,⟨[.int .i64 x.f9],[.int .i64 x.f10,.int .i64 x.f11,.int .i64 x.f12,.int .i64 x.f13,.int .i64 x.f14,.int .i64 x.f15,.int .i64 x.f16],rfl,rfl,⟨[.int .i64 x.f10],[.int .i64 x.f11,.int .i64 x.f12,.int .i64 x.f13,.int .i64 x.f14,.int .i64 x.f15,.int .i64 x.f16],rfl,rfl,⟨[.int .i64 x.f11],[.int .i64 x.f12,.int .i64 x.f13,.int .i64 x.f14,.int .i64 x.f15,.int .i64 x.f16],rfl,rfl,⟨[.int .i64 x.f12],[.int .i64 x.f13,.int .i64 x.f14,.int .i64 x.f15,.int .i64 x.f16],rfl,rfl,⟨[.int .i64 x.f13],[.int .i64 x.f14,.int .i64 x.f15,.int .i64 x.f16],rfl,rfl,⟨[.int .i64 x.f14],[.int .i64 x.f15,.int .i64 x.f16],rfl,rfl,⟨[.int .i64 x.f15],[.int .i64 x.f16],rfl,rfl,rfl⟩⟩⟩⟩⟩⟩⟩⟩⟩⟩⟩⟩⟩⟩⟩⟩
def rd_T98 (xs : List S98) (i : Int) : S98 := xs.getD i.toNat z98
theorem at_T98 {w : World} {A : Option Addr} {n : Nat} {xs : List S98} (h : Kd.C k98 w A n xs) (i : Int) (h0 : 0 ≤ i) (h1 : i < n) : ∃ ad A4 c4 A5 c5 A6 c6,A = some ad ∧ w.cell? (ad.add (i.toNat * 18)) = some (.string (rd_T98 xs i).f0) ∧ w.cell? ⟨(ad.add (i.toNat * 18)).block,(ad.add (i.toNat * 18)).off + 1,none⟩ = some (.int .i64 (rd_T98 xs i).f1) ∧ w.cell? ⟨(ad.add (i.toNat * 18)).block,(ad.add (i.toNat * 18)).off + 2,none⟩ = some (.int .i64 (rd_T98 xs i).f2) ∧ w.cell? ⟨(ad.add (i.toNat * 18)).block,(ad.add (i.toNat * 18)).off + 3,none⟩ = some (.int .i64 (rd_T98 xs i).f3) ∧ w.cell? ⟨(ad.add (i.toNat * 18)).block,(ad.add (i.toNat * 18)).off + 4,none⟩ = some (.slice A4 (rd_T98 xs i).f4.length c4) ∧ w.cell? ⟨(ad.add (i.toNat * 18)).block,(ad.add (i.toNat * 18)).off + 5,none⟩ = some (.slice A5 (rd_T98 xs i).f5.f0.length c5) ∧ w.cell? ⟨(ad.add (i.toNat * 18)).block,(ad.add (i.toNat * 18)).off + 6,none⟩ = some (.slice A6 (rd_T98 xs i).f5.f1.length c6) ∧ w.cell? ⟨(ad.add (i.toNat * 18)).block,(ad.add (i.toNat * 18)).off + 7,none⟩ = some (.int .i64 (rd_T98 xs i).f6) ∧ w.cell? ⟨(ad.add (i.toNat * 18)).block,(ad.add (i.toNat * 18)).off + 8,none⟩ = some (.int .i64 (rd_T98 xs i).f7) ∧ w.cell? ⟨(ad.add (i.toNat * 18)).block,(ad.add (i.toNat * 18)).off + 9,none⟩ = some (.int .i64 (rd_T98 xs i).f8) ∧ w.cell? ⟨(ad.add (i.toNat * 18)).block,(ad.add (i.toNat * 18)).off + 10,none⟩ = some (.int .i64 (rd_T98 xs i).f9) ∧ w.cell? ⟨(ad.add (i.toNat * 18)).block,(ad.add (i.toNat * 18)).off + 11,none⟩ = some (.int .i64 (rd_T98 xs i).f10) ∧ w.cell? ⟨(ad.add (i.toNat * 18)).block,(ad.add (i.toNat * 18)).off + 12,none⟩ = some (.int .i64 (rd_T98 xs i).f11) ∧ w.cell? ⟨(ad.add (i.toNat * 18)).block,(ad.add (i.toNat * 18)).off + 13,none⟩ = some (.int .i64 (rd_T98 xs i).f12) ∧ w.cell? ⟨(ad.add (i.toNat * 18)).block,(ad.add (i.toNat * 18)).off + 14,none⟩ = some (.int .i64 (rd_T98 xs i).f13) ∧ w.cell? ⟨(ad.add (i.toNat * 18)).block,(ad.add (i.toNat * 18)).off + 15,none⟩ = some (.int .i64 (rd_T98 xs i).f14) ∧ w.cell? ⟨(ad.add (i.toNat * 18)).block,(ad.add (i.toNat * 18)).off + 16,none⟩ = some (.int .i64 (rd_T98 xs i).f15) ∧ w.cell? ⟨(ad.add (i.toNat * 18)).block,(ad.add (i.toNat * 18)).off + 17,none⟩ = some (.int .i64 (rd_T98 xs i).f16) ∧ (rd_T98 xs i).f4.length ≤ c4 ∧ k108.C w A4 (rd_T98 xs i).f4.length (rd_T98 xs i).f4 ∧ (rd_T98 xs i).f5.f0.length ≤ c5 ∧ k108.C w A5 (rd_T98 xs i).f5.f0.length (rd_T98 xs i).f5.f0 ∧ (rd_T98 xs i).f5.f1.length ≤ c6 ∧ k108.C w A6 (rd_T98 xs i).f5.f1.length (rd_T98 xs i).f5.f1 := by
  obtain ⟨ad,c,e,_,hK,hc0⟩ := Kd.C_get h z98 i h0 h1
  have hc : ∀ j u,c[j]? = some u → w.cell? (ad.add (i.toNat * 18 + j)) = some u := hc0
  obtain ⟨A4,c4,A5,c5,A6,c6,rfl,l4,g4,l5,g5,l6,g6⟩ := k98_open hK
  exact ⟨ad,A4,c4,A5,c5,A6,c6,e,hc 0 _ rfl,by rw [← add_field _ _ 1 (by omega)];exact hc 1 _ rfl,by rw [← add_field _ _ 2 (by omega)];exact hc 2 _ rfl,by rw [← add_field _ _ 3 (by omega)];exact hc 3 _ rfl,by rw [← add_field _ _ 4 (by omega)];exact hc 4 _ rfl,by rw [← add_field _ _ 5 (by omega)];exact hc 5 _ rfl,by rw [← add_field _ _ 6 (by omega)];exact hc 6 _ rfl,by rw [← add_field _ _ 7 (by omega)];exact hc 7 _ rfl,by rw [← add_field _ _ 8 (by omega)];exact hc 8 _ rfl,by rw [← add_field _ _ 9 (by omega)];exact hc 9 _ rfl,by rw [← add_field _ _ 10 (by omega)];exact hc 10 _ rfl,by rw [← add_field _ _ 11 (by omega)];exact hc 11 _ rfl,by rw [← add_field _ _ 12 (by omega)];exact hc 12 _ rfl,by rw [← add_field _ _ 13 (by omega)];exact hc 13 _ rfl,by rw [← add_field _ _ 14 (by omega)];exact hc 14 _ rfl,by rw [← add_field _ _ 15 (by omega)];exact hc 15 _ rfl,by rw [← add_field _ _ 16 (by omega)];exact hc 16 _ rfl,by rw [← add_field _ _ 17 (by omega)];exact hc 17 _ rfl,l4,g4,l5,g5,l6,g6⟩

/-! #### struct type 100 -/
structure S100 where
  f0 : ByteArray
  f1 : Int
  f2 : Int
  f3 : Int
  f4 : Int
  f5 : Int
  f6 : Int
def z100 : S100 := ⟨(⟨#[]⟩ : ByteArray),(0 : Int),(0 : Int),(0 : Int),(0 : Int),(0 : Int),(0 : Int)⟩
def k100 : Kd S100 := Kd.iso (Kd.pair Kd.string (Kd.pair (Kd.int .i64) (Kd.pair (Kd.int .i64) (Kd.pair (Kd.int .i64) (Kd.pair (Kd.int .i64) (Kd.pair (Kd.int .i64) (Kd.int .i64))))))) (fun x : S100 => (x.f0,x.f1,x.f2,x.f3,x.f4,x.f5,x.f6))
theorem k100_open {w : World} {x : S100} {cs : List Value} (h : k100.K w x cs) : cs = [.string x.f0,.int .i64 x.f1,.int .i64 x.f2,.int .i64 x.f3,.int .i64 x.f4,.int .i64 x.f5,.int .i64 x.f6] := by
  obtain ⟨_,_,rfl,rfl,⟨_,_,rfl,rfl,⟨_,_,rfl,rfl,⟨_,_,rfl,rfl,⟨_,_,rfl,rfl,⟨_,_,rfl,rfl,rfl⟩⟩⟩⟩⟩⟩ := h
  exact rfl
theorem k100_openM {w : World} {base : Nat} {ok : Nat → Prop} {x : S100} {cs : List Value} (h : k100.M w base ok x cs) : cs = [.string x.f0,.int .i64 x.f1,.int .i64 x.f2,.int .i64 x.f3,.int .i64 x.f4,.int .i64 x.f5,.int .i64 x.f6] := by
  obtain ⟨_,_,rfl,rfl,⟨_,_,rfl,rfl,⟨_,_,rfl,rfl,⟨_,_,rfl,rfl,⟨_,_,rfl,rfl,⟨_,_,rfl,rfl,rfl⟩⟩⟩⟩⟩⟩ := h
  exact rfl
theorem k100_mk (w : World) (x : S100) : k100.K w x [.string x.f0,.int .i64 x.f1,.int .i64 x.f2,.int .i64 x.f3,.int .i64 x.f4,.int .i64 x.f5,.int .i64 x.f6] := ⟨[.string x.f0],[.int .i64 x.f1,.int .i64 x.f2,.int .i64 x.f3,.int .i64 x.f4,.int .i64 x.f5,.int .i64 x.f6],rfl,rfl,⟨[.int .i64 x.f1],[.int .i64 x.f2,.int .i64 x.f3,.int .i64 x.f4,.int .i64 x.f5,.int .i64 x.f6],rfl,rfl,⟨[.int .i64 x.f2],[.int .i64 x.f3,.int .i64 x.f4,.int .i64 x.f5,.int .i64 x.f6],rfl,rfl,⟨[.int .i64 x.f3],[.int .i64 x.f4,.int .i64 x.f5,.int .i64 x.f6],rfl,rfl,⟨[.int .i64 x.f4],[.int .i64 x.f5,.int .i64 x.f6],rfl,rfl,⟨[.int .i64 x.f5],[.int .i64 x.f6],rfl,rfl,rfl⟩⟩⟩⟩⟩⟩
theorem k100_mkM (w : World) (base : Nat) (ok : Nat → Prop) (x : S100) : k100.M w base ok x [.string x.f0,.int .i64 x.f1,.int .i64 x.f2,.int .i64 x.f3,.int .i64 x.f4,.int .i64 x.f5,.int .i64 x.f6] := ⟨[.string x.f0],[.int .i64 x.f1,.int .i64 x.f2,.int .i64 x.f3,.int .i64 x.f4,.int .i64 x.f5,.int .i64 x.f6],rfl,rfl,⟨[.int .i64 x.f1],[.int .i64 x.f2,.int .i64 x.f3,.int .i64 x.f4,.int .i64 x.f5,.int .i64 x.f6],rfl,rfl,⟨[.int .i64 x.f2],[.int .i64 x.f3,.int .i64 x.f4,.int .i64 x.f5,.int .i64 x.f6],rfl,rfl,⟨[.int .i64 x.f3],[.int .i64 x.f4,.int .i64 x.f5,.int .i64 x.f6],rfl,rfl,⟨[.int .i64 x.f4],[.int .i64 x.f5,.int .i64 x.f6],rfl,rfl,⟨[.int .i64 x.f5],[.int .i64 x.f6],rfl,rfl,rfl⟩⟩⟩⟩⟩⟩
def rd_T100 (xs : List S100) (i : Int) : S100 := xs.getD i.toNat z100
theorem at_T100 {w : World} {A : Option Addr} {n : Nat} {xs : List S100} (h : Kd.C k100 w A n xs) (i : Int) (h0 : 0 ≤ i) (h1 : i < n) : ∃ ad ,A = some ad ∧ w.cell? (ad.add (i.toNat * 7)) = some (.string (rd_T100 xs i).f0) ∧ w.cell? ⟨(ad.add (i.toNat * 7)).block,(ad.add (i.toNat * 7)).off + 1,none⟩ = some (.int .i64 (rd_T100 xs i).f1) ∧ w.cell? ⟨(ad.add (i.toNat * 7)).block,(ad.add (i.toNat * 7)).off + 2,none⟩ = some (.int .i64 (rd_T100 xs i).f2) ∧ w.cell? ⟨(ad.add (i.toNat * 7)).block,(ad.add (i.toNat * 7)).off + 3,none⟩ = some (.int .i64 (rd_T100 xs i).f3) ∧ w.cell? ⟨(ad.add (i.toNat * 7)).block,(ad.add (i.toNat * 7)).off + 4,none⟩ = some (.int .i64 (rd_T100 xs i).f4) ∧ w.cell? ⟨(ad.add (i.toNat * 7)).block,(ad.add (i.toNat * 7)).off + 5,none⟩ = some (.int .i64 (rd_T100 xs i).f5) ∧ w.cell? ⟨(ad.add (i.toNat * 7)).block,(ad.add (i.toNat * 7)).off + 6,none⟩ = some (.int .i64 (rd_T100 xs i).f6) := by
  obtain ⟨ad,c,e,_,hK,hc0⟩ := Kd.C_get h z100 i h0 h1
  have hc : ∀ j u,c[j]? = some u → w.cell? (ad.add (i.toNat * 7 + j)) = some u := hc0
  obtain rfl := k100_open hK
  exact ⟨ad,e,hc 0 _ rfl,by rw [← add_field _ _ 1 (by omega)];exact hc 1 _ rfl,by rw [← add_field _ _ 2 (by omega)];exact hc 2 _ rfl,by rw [← add_field _ _ 3 (by omega)];exact hc 3 _ rfl,by rw [← add_field _ _ 4 (by omega)];exact hc 4 _ rfl,by rw [← add_field _ _ 5 (by omega)];exact hc 5 _ rfl,by rw [← add_field _ _ 6 (by omega)];exact hc 6 _ rfl⟩

/-! #### struct type 102 -/
structure S102 where
  f0 : ByteArray
  f1 : Int
  f2 : Int
  f3 : Int
  f4 : Int
def z102 : S102 := ⟨(⟨#[]⟩ : ByteArray),(0 : Int),(0 : Int),(0 : Int),(0 : Int)⟩
def k102 : Kd S102 := Kd.iso (Kd.pair Kd.string (Kd.pair (Kd.int .i64) (Kd.pair (Kd.int .i64) (Kd.pair (Kd.int .i64) (Kd.int .i64))))) (fun x : S102 => (x.f0,x.f1,x.f2,x.f3,x.f4))
theorem k102_open {w : World} {x : S102} {cs : List Value} (h : k102.K w x cs) : cs = [.string x.f0,.int .i64 x.f1,.int .i64 x.f2,.int .i64 x.f3,.int .i64 x.f4] := by
  obtain ⟨_,_,rfl,rfl,⟨_,_,rfl,rfl,⟨_,_,rfl,rfl,⟨_,_,rfl,rfl,rfl⟩⟩⟩⟩ := h
  exact rfl
theorem k102_openM {w : World} {base : Nat} {ok : Nat → Prop} {x : S102} {cs : List Value} (h : k102.M w base ok x cs) : cs = [.string x.f0,.int .i64 x.f1,.int .i64 x.f2,.int .i64 x.f3,.int .i64 x.f4] := by
  obtain ⟨_,_,rfl,rfl,⟨_,_,rfl,rfl,⟨_,_,rfl,rfl,⟨_,_,rfl,rfl,rfl⟩⟩⟩⟩ := h
  exact rfl
theorem k102_mk (w : World) (x : S102) : k102.K w x [.string x.f0,.int .i64 x.f1,.int .i64 x.f2,.int .i64 x.f3,.int .i64 x.f4] := ⟨[.string x.f0],[.int .i64 x.f1,.int .i64 x.f2,.int .i64 x.f3,.int .i64 x.f4],rfl,rfl,⟨[.int .i64 x.f1],[.int .i64 x.f2,.int .i64 x.f3,.int .i64 x.f4],rfl,rfl,⟨[.int .i64 x.f2],[.int .i64 x.f3,.int .i64 x.f4],rfl,rfl,⟨[.int .i64 x.f3],[.int .i64 x.f4],rfl,rfl,rfl⟩⟩⟩⟩
theorem k102_mkM (w : World) (base : Nat) (ok : Nat → Prop) (x : S102) : k102.M w base ok x [.string x.f0,.int .i64 x.f1,.int .i64 x.f2,.int .i64 x.f3,.int .i64 x.f4] := ⟨[.string x.f0],[.int .i64 x.f1,.int .i64 x.f2,.int .i64 x.f3,.int .i64 x.f4],rfl,rfl,⟨[.int .i64 x.f1],[.int .i64 x.f2,.int .i64 x.f3,.int .i64 x.f4],rfl,rfl,⟨[.int .i64 x.f2],[.int .i64 x.f3,.int .i64 x.f4],rfl,rfl,⟨[.int .i64 x.f3],[.int .i64 x.f4],rfl,rfl,rfl⟩⟩⟩⟩
def rd_T102 (xs : List S102) (i : Int) : S102 := xs.getD i.toNat z102
theorem at_T102 {w : World} {A : Option Addr} {n : Nat} {xs : List S102} (h : Kd.C k102 w A n xs) (i : Int) (h0 : 0 ≤ i) (h1 : i < n) : ∃ ad ,A = some ad ∧ w.cell? (ad.add (i.toNat * 5)) = some (.string (rd_T102 xs i).f0) ∧ w.cell? ⟨(ad.add (i.toNat * 5)).block,(ad.add (i.toNat * 5)).off + 1,none⟩ = some (.int .i64 (rd_T102 xs i).f1) ∧ w.cell? ⟨(ad.add (i.toNat * 5)).block,(ad.add (i.toNat * 5)).off + 2,none⟩ = some (.int .i64 (rd_T102 xs i).f2) ∧ w.cell? ⟨(ad.add (i.toNat * 5)).block,(ad.add (i.toNat * 5)).off + 3,none⟩ = some (.int .i64 (rd_T102 xs i).f3) ∧ w.cell? ⟨(ad.add (i.toNat * 5)).block,(ad.add (i.toNat * 5)).off + 4,none⟩ = some (.int .i64 (rd_T102 xs i).f4) := by
  obtain ⟨ad,c,e,_,hK,hc0⟩ := Kd.C_get h z102 i h0 h1
  have hc : ∀ j u,c[j]? = some u → w.cell? (ad.add (i.toNat * 5 + j)) = some u := hc0
  obtain rfl := k102_open hK
  exact ⟨ad,e,hc 0 _ rfl,by rw [← add_field _ _ 1 (by omega)];exact hc 1 _ rfl,by rw [← add_field _ _ 2 (by omega)];exact hc 2 _ rfl,by rw [← add_field _ _ 3 (by omega)];exact hc 3 _ rfl,by rw [← add_field _ _ 4 (by omega)];exact hc 4 _ rfl⟩

/-! #### struct type 104 -/
structure S104 where
  f0 : ByteArray
  f1 : Int
  f2 : Int
  f3 : Int
  f4 : Int
  f5 : Int
  f6 : Int
def z104 : S104 := ⟨(⟨#[]⟩ : ByteArray),(0 : Int),(0 : Int),(0 : Int),(0 : Int),(0 : Int),(0 : Int)⟩
def k104 : Kd S104 := Kd.iso (Kd.pair Kd.string (Kd.pair (Kd.int .i64) (Kd.pair (Kd.int .i64) (Kd.pair (Kd.int .i64) (Kd.pair (Kd.int .i64) (Kd.pair (Kd.int .i64) (Kd.int .i64))))))) (fun x : S104 => (x.f0,x.f1,x.f2,x.f3,x.f4,x.f5,x.f6))
theorem k104_open {w : World} {x : S104} {cs : List Value} (h : k104.K w x cs) : cs = [.string x.f0,.int .i64 x.f1,.int .i64 x.f2,.int .i64 x.f3,.int .i64 x.f4,.int .i64 x.f5,.int .i64 x.f6] := by
  obtain ⟨_,_,rfl,rfl,⟨_,_,rfl,rfl,⟨_,_,rfl,rfl,⟨_,_,rfl,rfl,⟨_,_,rfl,rfl,⟨_,_,rfl,rfl,rfl⟩⟩⟩⟩⟩⟩ := h
  exact rfl
theorem k104_openM {w : World} {base : Nat} {ok : Nat → Prop} {x : S104} {cs : List Value} (h : k104.M w base ok x cs) : cs = [.string x.f0,.int .i64 x.f1,.int .i64 x.f2,.int .i64 x.f3,.int .i64 x.f4,.int .i64 x.f5,.int .i64 x.f6] := by
  obtain ⟨_,_,rfl,rfl,⟨_,_,rfl,rfl,⟨_,_,rfl,rfl,⟨_,_,rfl,rfl,⟨_,_,rfl,rfl,⟨_,_,rfl,rfl,rfl⟩⟩⟩⟩⟩⟩ := h
  exact rfl
theorem k104_mk (w : World) (x : S104) : k104.K w x [.string x.f0,.int .i64 x.f1,.int .i64 x.f2,.int .i64 x.f3,.int .i64 x.f4,.int .i64 x.f5,.int .i64 x.f6] := ⟨[.string x.f0],[.int .i64 x.f1,.int .i64 x.f2,.int .i64 x.f3,.int .i64 x.f4,.int .i64 x.f5,.int .i64 x.f6],rfl,rfl,⟨[.int .i64 x.f1],[.int .i64 x.f2,.int .i64 x.f3,.int .i64 x.f4,.int .i64 x.f5,.int .i64 x.f6],rfl,rfl,⟨[.int .i64 x.f2],[.int .i64 x.f3,.int .i64 x.f4,.int .i64 x.f5,.int .i64 x.f6],rfl,rfl,⟨[.int .i64 x.f3],[.int .i64 x.f4,.int .i64 x.f5,.int .i64 x.f6],rfl,rfl,⟨[.int .i64 x.f4],[.int .i64 x.f5,.int .i64 x.f6],rfl,rfl,⟨[.int .i64 x.f5],[.int .i64 x.f6],rfl,rfl,rfl⟩⟩⟩⟩⟩⟩
theorem k104_mkM (w : World) (base : Nat) (ok : Nat → Prop) (x : S104) : k104.M w base ok x [.string x.f0,.int .i64 x.f1,.int .i64 x.f2,.int .i64 x.f3,.int .i64 x.f4,.int .i64 x.f5,.int .i64 x.f6] := ⟨[.string x.f0],[.int .i64 x.f1,.int .i64 x.f2,.int .i64 x.f3,.int .i64 x.f4,.int .i64 x.f5,.int .i64 x.f6],rfl,rfl,⟨[.int .i64 x.f1],[.int .i64 x.f2,.int .i64 x.f3,.int .i64 x.f4,.int .i64 x.f5,.int .i64 x.f6],rfl,rfl,⟨[.int .i64 x.f2],[.int .i64 x.f3,.int .i64 x.f4,.int .i64 x.f5,.int .i64 x.f6],rfl,rfl,⟨[.int .i64 x.f3],[.int .i64 x.f4,.int .i64 x.f5,.int .i64 x.f6],rfl,rfl,⟨[.int .i64 x.f4],[.int .i64 x.f5,.int .i64 x.f6],rfl,rfl,⟨[.int .i64 x.f5],[.int .i64 x.f6],rfl,rfl,rfl⟩⟩⟩⟩⟩⟩
def rd_T104 (xs : List S104) (i : Int) : S104 := xs.getD i.toNat z104
theorem at_T104 {w : World} {A : Option Addr} {n : Nat} {xs : List S104} (h : Kd.C k104 w A n xs) (i : Int) (h0 : 0 ≤ i) (h1 : i < n) : ∃ ad ,A = some ad ∧ w.cell? (ad.add (i.toNat * 7)) = some (.string (rd_T104 xs i).f0) ∧ w.cell? ⟨(ad.add (i.toNat * 7)).block,(ad.add (i.toNat * 7)).off + 1,none⟩ = some (.int .i64 (rd_T104 xs i).f1) ∧ w.cell? ⟨(ad.add (i.toNat * 7)).block,(ad.add (i.toNat * 7)).off + 2,none⟩ = some (.int .i64 (rd_T104 xs i).f2) ∧ w.cell? ⟨(ad.add (i.toNat * 7)).block,(ad.add (i.toNat * 7)).off + 3,none⟩ = some (.int .i64 (rd_T104 xs i).f3) ∧ w.cell? ⟨(ad.add (i.toNat * 7)).block,(ad.add (i.toNat * 7)).off + 4,none⟩ = some (.int .i64 (rd_T104 xs i).f4) ∧ w.cell? ⟨(ad.add (i.toNat * 7)).block,(ad.add (i.toNat * 7)).off + 5,none⟩ = some (.int .i64 (rd_T104 xs i).f5) ∧ w.cell? ⟨(ad.add (i.toNat * 7)).block,(ad.add (i.toNat * 7)).off + 6,none⟩ = some (.int .i64 (rd_T104 xs i).f6) := by
  obtain ⟨ad,c,e,_,hK,hc0⟩ := Kd.C_get h z104 i h0 h1
  have hc : ∀ j u,c[j]? = some u → w.cell? (ad.add (i.toNat * 7 + j)) = some u := hc0
  obtain rfl := k104_open hK
  exact ⟨ad,e,hc 0 _ rfl,by rw [← add_field _ _ 1 (by omega)];exact hc 1 _ rfl,by rw [← add_field _ _ 2 (by omega)];exact hc 2 _ rfl,by rw [← add_field _ _ 3 (by omega)];exact hc 3 _ rfl,by rw [← add_field _ _ 4 (by omega)];exact hc 4 _ rfl,by rw [← add_field _ _ 5 (by omega)];exact hc 5 _ rfl,by rw [← add_field _ _ 6 (by omega)];exact hc 6 _ rfl⟩

/-! #### struct type 106 -/
structure S106 where
  f0 : ByteArray
  f1 : Int
def z106 : S106 := ⟨(⟨#[]⟩ : ByteArray),(0 : Int)⟩
def k106 : Kd S106 := Kd.iso (Kd.pair Kd.string (Kd.int .i64)) (fun x : S106 => (x.f0,x.f1))
theorem k106_open {w : World} {x : S106} {cs : List Value} (h : k106.K w x cs) : cs = [.string x.f0,.int .i64 x.f1] := by
  obtain ⟨_,_,rfl,rfl,rfl⟩ := h
  exact rfl
theorem k106_openM {w : World} {base : Nat} {ok : Nat → Prop} {x : S106} {cs : List Value} (h : k106.M w base ok x cs) : cs = [.string x.f0,.int .i64 x.f1] := by
  obtain ⟨_,_,rfl,rfl,rfl⟩ := h
  exact rfl
theorem k106_mk (w : World) (x : S106) : k106.K w x [.string x.f0,.int .i64 x.f1] := ⟨[.string x.f0],[.int .i64 x.f1],rfl,rfl,rfl⟩
theorem k106_mkM (w : World) (base : Nat) (ok : Nat → Prop) (x : S106) : k106.M w base ok x [.string x.f0,.int .i64 x.f1] := ⟨[.string x.f0],[.int .i64 x.f1],rfl,rfl,rfl⟩
def rd_T106 (xs : List S106) (i : Int) : S106 := xs.getD i.toNat z106
theorem at_T106 {w : World} {A : Option Addr} {n : Nat} {xs : List S106} (h : Kd.C k106 w A n xs) (i : Int) (h0 : 0 ≤ i) (h1 : i < n) : ∃ ad ,A = some ad ∧ w.cell? (ad.add (i.toNat * 2)) = some (.string (rd_T106 xs i).f0) ∧ w.cell? ⟨(ad.add (i.toNat * 2)).block,(ad.add (i.toNat * 2)).off + 1,none⟩ = some (.int .i64 (rd_T106 xs i).f1) := by
  obtain ⟨ad,c,e,_,hK,hc0⟩ := Kd.C_get h z106 i h0 h1
  have hc : ∀ j u,c[j]? = some u → w.cell? (ad.add (i.toNat * 2 + j)) = some u := hc0
  obtain rfl := k106_open hK
  exact ⟨ad,e,hc 0 _ rfl,by rw [← add_field _ _ 1 (by omega)];exact hc 1 _ rfl⟩

/-! #### struct type 45 -/
structure S45 where
  f0 : Int
  f1 : Int
  f2 : Int
  f3 : Int
  f4 : Int
  f5 : Int
  f6 : Int
  f7 : Int
  f8 : Int
def z45 : S45 := ⟨(0 : Int),(0 : Int),(0 : Int),(0 : Int),(0 : Int),(0 : Int),(0 : Int),(0 : Int),(0 : Int)⟩
def k45 : Kd S45 := Kd.iso (Kd.pair (Kd.int .i64) (Kd.pair (Kd.int .i64) (Kd.pair (Kd.int .i64) (Kd.pair (Kd.int .i64) (Kd.pair (Kd.int .i64) (Kd.pair (Kd.int .i64) (Kd.pair (Kd.int .i64) (Kd.pair (Kd.int .i64) (Kd.int .i64))))))))) (fun x : S45 => (x.f0,x.f1,x.f2,x.f3,x.f4,x.f5,x.f6,x.f7,x.f8))
theorem k45_open {w : World} {x : S45} {cs : List Value} (h : k45.K w x cs) : cs = [.int .i64 x.f0,.int .i64 x.f1,.int .i64 x.f2,.int .i64 x.f3,.int .i64 x.f4,.int .i64 x.f5,.int .i64 x.f6,.int .i64 x.f7,.int .i64 x.f8] := by
  obtain ⟨_,_,rfl,rfl,⟨_,_,rfl,rfl,⟨_,_,rfl,rfl,⟨_,_,rfl,rfl,⟨_,_,rfl,rfl,⟨_,_,rfl,rfl,⟨_,_,rfl,rfl,⟨_,_,rfl,rfl,rfl⟩⟩⟩⟩⟩⟩⟩⟩ := h
  exact rfl
theorem k45_openM {w : World} {base : Nat} {ok : Nat → Prop} {x : S45} {cs : List Value} (h : k45.M w base ok x cs) : cs = [.int .i64 x.f0,.int .i64 x.f1,.int .i64 x.f2,.int .i64 x.f3,.int .i64 x.f4,.int .i64 x.f5,.int .i64 x.f6,.int .i64 x.f7,.int .i64 x.f8] := by
  obtain ⟨_,_,rfl,rfl,⟨_,_,rfl,rfl,⟨_,_,rfl,rfl,⟨_,_,rfl,rfl,⟨_,_,rfl,rfl,⟨_,_,rfl,rfl,⟨_,_,rfl,rfl,⟨_,_,rfl,rfl,rfl⟩⟩⟩⟩⟩⟩⟩⟩ := h
  exact rfl
theorem k45_mk (w : World) (x : S45) : k45.K w x [.int .i64 x.f0,.int .i64 x.f1,.int .i64 x.f2,.int .i64 x.f3,.int .i64 x.f4,.int .i64 x.f5,.int .i64 x.f6,.int .i64 x.f7,.int .i64 x.f8] := ⟨[.int .i64 x.f0],[.int .i64 x.f1,.int .i64 x.f2,.int .i64 x.f3,.int .i64 x.f4,.int .i64 x.f5,.int .i64 x.f6,.int .i64 x.f7,.int .i64 x.f8],rfl,rfl,⟨[.int .i64 x.f1],[.int .i64 x.f2,.int .i64 x.f3,.int .i64 x.f4,.int .i64 x.f5,.int .i64 x.f6,.int .i64 x.f7,.int .i64 x.f8],rfl,rfl,⟨[.int .i64 x.f2],[.int .i64 x.f3,.int .i64 x.f4,.int .i64 x.f5,.int .i64 x.f6,.int .i64 x.f7,.int .i64 x.f8],rfl,rfl,⟨[.int .i64 x.f3],[.int .i64 x.f4,.int .i64 x.f5,.int .i64 x.f6,.int .i64 x.f7,.int .i64 x.f8],rfl,rfl,⟨[.int .i64 x.f4],[.int .i64 x.f5,.int .i64 x.f6,.int .i64 x.f7,.int .i64 x.f8],rfl,rfl,⟨[.int .i64 x.f5],[.int .i64 x.f6,.int .i64 x.f7,.int .i64 x.f8],rfl,rfl,⟨[.int .i64 x.f6],[.int .i64 x.f7,.int .i64 x.f8],rfl,rfl,⟨[.int .i64 x.f7],[.int .i64 x.f8],rfl,rfl,rfl⟩⟩⟩⟩⟩⟩⟩⟩
theorem k45_mkM (w : World) (base : Nat) (ok : Nat → Prop) (x : S45) : k45.M w base ok x [.int .i64 x.f0,.int .i64 x.f1,.int .i64 x.f2,.int .i64 x.f3,.int .i64 x.f4,.int .i64 x.f5,.int .i64 x.f6,.int .i64 x.f7,.int .i64 x.f8] := ⟨[.int .i64 x.f0],[.int .i64 x.f1,.int .i64 x.f2,.int .i64 x.f3,.int .i64 x.f4,.int .i64 x.f5,.int .i64 x.f6,.int .i64 x.f7,.int .i64 x.f8],rfl,rfl,⟨[.int .i64 x.f1],[.int .i64 x.f2,.int .i64 x.f3,.int .i64 x.f4,.int .i64 x.f5,.int .i64 x.f6,.int .i64 x.f7,.int .i64 x.f8],rfl,rfl,⟨[.int .i64 x.f2],[.int .i64 x.f3,.int .i64 x.f4,.int .i64 x.f5,.int .i64 x.f6,.int .i64 x.f7,.int .i64 x.f8],rfl,rfl,⟨[.int .i64 x.f3],[.int .i64 x.f4,.int .i64 x.f5,.int .i64 x.f6,.int .i64 x.f7,.int .i64 x.f8],rfl,rfl,⟨[.int .i64 x.f4],[.int .i64 x.f5,.int .i64 x.f6,.int .i64 x.f7,.int .i64 x.f8],rfl,rfl,⟨[.int .i64 x.f5],[.int .i64 x.f6,.int .i64 x.f7,.int .i64 x.f8],rfl,rfl,⟨[.int .i64 x.f6],[.int .i64 x.f7,.int .i64 x.f8],rfl,rfl,⟨[.int .i64 x.f7],[.int .i64 x.f8],rfl,rfl,rfl⟩⟩⟩⟩⟩⟩⟩⟩
def rd_T45 (xs : List S45) (i : Int) : S45 := xs.getD i.toNat z45
theorem at_T45 {w : World} {A : Option Addr} {n : Nat} {xs : List S45} (h : Kd.C k45 w A n xs) (i : Int) (h0 : 0 ≤ i) (h1 : i < n) : ∃ ad ,A = some ad ∧ w.cell? (ad.add (i.toNat * 9)) = some (.int .i64 (rd_T45 xs i).f0) ∧ w.cell? ⟨(ad.add (i.toNat * 9)).block,(ad.add (i.toNat * 9)).off + 1,none⟩ = some (.int .i64 (rd_T45 xs i).f1) ∧ w.cell? ⟨(ad.add (i.toNat * 9)).block,(ad.add (i.toNat * 9)).off + 2,none⟩ = some (.int .i64 (rd_T45 xs i).f2) ∧ w.cell? ⟨(ad.add (i.toNat * 9)).block,(ad.add (i.toNat * 9)).off + 3,none⟩ = some (.int .i64 (rd_T45 xs i).f3) ∧ w.cell? ⟨(ad.add (i.toNat * 9)).block,(ad.add (i.toNat * 9)).off + 4,none⟩ = some (.int .i64 (rd_T45 xs i).f4) ∧ w.cell? ⟨(ad.add (i.toNat * 9)).block,(ad.add (i.toNat * 9)).off + 5,none⟩ = some (.int .i64 (rd_T45 xs i).f5) ∧ w.cell? ⟨(ad.add (i.toNat * 9)).block,(ad.add (i.toNat * 9)).off + 6,none⟩ = some (.int .i64 (rd_T45 xs i).f6) ∧ w.cell? ⟨(ad.add (i.toNat * 9)).block,(ad.add (i.toNat * 9)).off + 7,none⟩ = some (.int .i64 (rd_T45 xs i).f7) ∧ w.cell? ⟨(ad.add (i.toNat * 9)).block,(ad.add (i.toNat * 9)).off + 8,none⟩ = some (.int .i64 (rd_T45 xs i).f8) := by
  obtain ⟨ad,c,e,_,hK,hc0⟩ := Kd.C_get h z45 i h0 h1
  have hc : ∀ j u,c[j]? = some u → w.cell? (ad.add (i.toNat * 9 + j)) = some u := hc0
  obtain rfl := k45_open hK
  exact ⟨ad,e,hc 0 _ rfl,by rw [← add_field _ _ 1 (by omega)];exact hc 1 _ rfl,by rw [← add_field _ _ 2 (by omega)];exact hc 2 _ rfl,by rw [← add_field _ _ 3 (by omega)];exact hc 3 _ rfl,by rw [← add_field _ _ 4 (by omega)];exact hc 4 _ rfl,by rw [← add_field _ _ 5 (by omega)];exact hc 5 _ rfl,by rw [← add_field _ _ 6 (by omega)];exact hc 6 _ rfl,by rw [← add_field _ _ 7 (by omega)];exact hc 7 _ rfl,by rw [← add_field _ _ 8 (by omega)];exact hc 8 _ rfl⟩

/-! #### struct type 47 -/
structure S47 where
  f0 : Int
  f1 : Int
def z47 : S47 := ⟨(0 : Int),(0 : Int)⟩
def k47 : Kd S47 := Kd.iso (Kd.pair (Kd.int .i64) (Kd.int .i64)) (fun x : S47 => (x.f0,x.f1))
theorem k47_open {w : World} {x : S47} {cs : List Value} (h : k47.K w x cs) : cs = [.int .i64 x.f0,.int .i64 x.f1] := by
  obtain ⟨_,_,rfl,rfl,rfl⟩ := h
  exact rfl
theorem k47_openM {w : World} {base : Nat} {ok : Nat → Prop} {x : S47} {cs : List Value} (h : k47.M w base ok x cs) : cs = [.int .i64 x.f0,.int .i64 x.f1] := by
  obtain ⟨_,_,rfl,rfl,rfl⟩ := h
  exact rfl
theorem k47_mk (w : World) (x : S47) : k47.K w x [.int .i64 x.f0,.int .i64 x.f1] := ⟨[.int .i64 x.f0],[.int .i64 x.f1],rfl,rfl,rfl⟩
theorem k47_mkM (w : World) (base : Nat) (ok : Nat → Prop) (x : S47) : k47.M w base ok x [.int .i64 x.f0,.int .i64 x.f1] := ⟨[.int .i64 x.f0],[.int .i64 x.f1],rfl,rfl,rfl⟩
def rd_T47 (xs : List S47) (i : Int) : S47 := xs.getD i.toNat z47
theorem at_T47 {w : World} {A : Option Addr} {n : Nat} {xs : List S47} (h : Kd.C k47 w A n xs) (i : Int) (h0 : 0 ≤ i) (h1 : i < n) : ∃ ad ,A = some ad ∧ w.cell? (ad.add (i.toNat * 2)) = some (.int .i64 (rd_T47 xs i).f0) ∧ w.cell? ⟨(ad.add (i.toNat * 2)).block,(ad.add (i.toNat * 2)).off + 1,none⟩ = some (.int .i64 (rd_T47 xs i).f1) := by
  obtain ⟨ad,c,e,_,hK,hc0⟩ := Kd.C_get h z47 i h0 h1
  have hc : ∀ j u,c[j]? = some u → w.cell? (ad.add (i.toNat * 2 + j)) = some u := hc0
  obtain rfl := k47_open hK
  exact ⟨ad,e,hc 0 _ rfl,by rw [← add_field _ _ 1 (by omega)];exact hc 1 _ rfl⟩

def rd_L16 (xs : List (List S45)) (i : Int) : (List S45) := xs.getD i.toNat ([] : List S45)
theorem at_L16 {w : World} {A : Option Addr} {n : Nat} {xs : List (List S45)} (h : Kd.C (Kd.slice 45 k45) w A n xs) (i : Int) (h0 : 0 ≤ i) (h1 : i < n) : ∃ ad A0 c0,A = some ad ∧ w.cell? (ad.add i.toNat) = some (.slice A0 (rd_L16 xs i).length c0) ∧ (rd_L16 xs i).length ≤ c0 ∧ k45.C w A0 (rd_L16 xs i).length (rd_L16 xs i) := by
  obtain ⟨ad,c,e,_,hK,hc0⟩ := Kd.C_get h ([] : List S45) i h0 h1
  have hc : ∀ j u,c[j]? = some u → w.cell? (ad.add (i.toNat * 1 + j)) = some u := hc0
  obtain ⟨A0,c0,rfl,l0,g0⟩ := hK
  exact ⟨ad,A0,c0,e,by have hq := hc 0 _ rfl;rwa [Nat.mul_one,Nat.add_zero] at hq,l0,g0⟩

def rd_L18 (xs : List (List ByteArray)) (i : Int) : (List ByteArray) := xs.getD i.toNat ([] : List ByteArray)
theorem at_L18 {w : World} {A : Option Addr} {n : Nat} {xs : List (List ByteArray)} (h : Kd.C (Kd.slice 9 Kd.string) w A n xs) (i : Int) (h0 : 0 ≤ i) (h1 : i < n) : ∃ ad A0 c0,A = some ad ∧ w.cell? (ad.add i.toNat) = some (.slice A0 (rd_L18 xs i).length c0) ∧ (rd_L18 xs i).length ≤ c0 ∧ Kd.string.C w A0 (rd_L18 xs i).length (rd_L18 xs i) := by
  obtain ⟨ad,c,e,_,hK,hc0⟩ := Kd.C_get h ([] : List ByteArray) i h0 h1
  have hc : ∀ j u,c[j]? = some u → w.cell? (ad.add (i.toNat * 1 + j)) = some u := hc0
  obtain ⟨A0,c0,rfl,l0,g0⟩ := hK
  exact ⟨ad,A0,c0,e,by have hq := hc 0 _ rfl;rwa [Nat.mul_one,Nat.add_zero] at hq,l0,g0⟩

def rd_L19 (xs : List (List S58)) (i : Int) : (List S58) := xs.getD i.toNat ([] : List S58)
theorem at_L19 {w : World} {A : Option Addr} {n : Nat} {xs : List (List S58)} (h : Kd.C (Kd.slice 58 k58) w A n xs) (i : Int) (h0 : 0 ≤ i) (h1 : i < n) : ∃ ad A0 c0,A = some ad ∧ w.cell? (ad.add i.toNat) = some (.slice A0 (rd_L19 xs i).length c0) ∧ (rd_L19 xs i).length ≤ c0 ∧ k58.C w A0 (rd_L19 xs i).length (rd_L19 xs i) := by
  obtain ⟨ad,c,e,_,hK,hc0⟩ := Kd.C_get h ([] : List S58) i h0 h1
  have hc : ∀ j u,c[j]? = some u → w.cell? (ad.add (i.toNat * 1 + j)) = some u := hc0
  obtain ⟨A0,c0,rfl,l0,g0⟩ := hK
  exact ⟨ad,A0,c0,e,by have hq := hc 0 _ rfl;rwa [Nat.mul_one,Nat.add_zero] at hq,l0,g0⟩

def rd_L20 (xs : List (List S98)) (i : Int) : (List S98) := xs.getD i.toNat ([] : List S98)
theorem at_L20 {w : World} {A : Option Addr} {n : Nat} {xs : List (List S98)} (h : Kd.C (Kd.slice 98 k98) w A n xs) (i : Int) (h0 : 0 ≤ i) (h1 : i < n) : ∃ ad A0 c0,A = some ad ∧ w.cell? (ad.add i.toNat) = some (.slice A0 (rd_L20 xs i).length c0) ∧ (rd_L20 xs i).length ≤ c0 ∧ k98.C w A0 (rd_L20 xs i).length (rd_L20 xs i) := by
  obtain ⟨ad,c,e,_,hK,hc0⟩ := Kd.C_get h ([] : List S98) i h0 h1
  have hc : ∀ j u,c[j]? = some u → w.cell? (ad.add (i.toNat * 1 + j)) = some u := hc0
  obtain ⟨A0,c0,rfl,l0,g0⟩ := hK
  exact ⟨ad,A0,c0,e,by have hq := hc 0 _ rfl;rwa [Nat.mul_one,Nat.add_zero] at hq,l0,g0⟩

def rd_L21 (xs : List (List S100)) (i : Int) : (List S100) := xs.getD i.toNat ([] : List S100)
theorem at_L21 {w : World} {A : Option Addr} {n : Nat} {xs : List (List S100)} (h : Kd.C (Kd.slice 100 k100) w A n xs) (i : Int) (h0 : 0 ≤ i) (h1 : i < n) : ∃ ad A0 c0,A = some ad ∧ w.cell? (ad.add i.toNat) = some (.slice A0 (rd_L21 xs i).length c0) ∧ (rd_L21 xs i).length ≤ c0 ∧ k100.C w A0 (rd_L21 xs i).length (rd_L21 xs i) := by
  obtain ⟨ad,c,e,_,hK,hc0⟩ := Kd.C_get h ([] : List S100) i h0 h1
  have hc : ∀ j u,c[j]? = some u → w.cell? (ad.add (i.toNat * 1 + j)) = some u := hc0
  obtain ⟨A0,c0,rfl,l0,g0⟩ := hK
  exact ⟨ad,A0,c0,e,by have hq := hc 0 _ rfl;rwa [Nat.mul_one,Nat.add_zero] at hq,l0,g0⟩

def rd_L22 (xs : List (List S102)) (i : Int) : (List S102) := xs.getD i.toNat ([] : List S102)
theorem at_L22 {w : World} {A : Option Addr} {n : Nat} {xs : List (List S102)} (h : Kd.C (Kd.slice 102 k102) w A n xs) (i : Int) (h0 : 0 ≤ i) (h1 : i < n) : ∃ ad A0 c0,A = some ad ∧ w.cell? (ad.add i.toNat) = some (.slice A0 (rd_L22 xs i).length c0) ∧ (rd_L22 xs i).length ≤ c0 ∧ k102.C w A0 (rd_L22 xs i).length (rd_L22 xs i) := by
  obtain ⟨ad,c,e,_,hK,hc0⟩ := Kd.C_get h ([] : List S102) i h0 h1
  have hc : ∀ j u,c[j]? = some u → w.cell? (ad.add (i.toNat * 1 + j)) = some u := hc0
  obtain ⟨A0,c0,rfl,l0,g0⟩ := hK
  exact ⟨ad,A0,c0,e,by have hq := hc 0 _ rfl;rwa [Nat.mul_one,Nat.add_zero] at hq,l0,g0⟩

def rd_L23 (xs : List (List S104)) (i : Int) : (List S104) := xs.getD i.toNat ([] : List S104)
theorem at_L23 {w : World} {A : Option Addr} {n : Nat} {xs : List (List S104)} (h : Kd.C (Kd.slice 104 k104) w A n xs) (i : Int) (h0 : 0 ≤ i) (h1 : i < n) : ∃ ad A0 c0,A = some ad ∧ w.cell? (ad.add i.toNat) = some (.slice A0 (rd_L23 xs i).length c0) ∧ (rd_L23 xs i).length ≤ c0 ∧ k104.C w A0 (rd_L23 xs i).length (rd_L23 xs i) := by
  obtain ⟨ad,c,e,_,hK,hc0⟩ := Kd.C_get h ([] : List S104) i h0 h1
  have hc : ∀ j u,c[j]? = some u → w.cell? (ad.add (i.toNat * 1 + j)) = some u := hc0
  obtain ⟨A0,c0,rfl,l0,g0⟩ := hK
  exact ⟨ad,A0,c0,e,by have hq := hc 0 _ rfl;rwa [Nat.mul_one,Nat.add_zero] at hq,l0,g0⟩

def rd_L24 (xs : List (List S106)) (i : Int) : (List S106) := xs.getD i.toNat ([] : List S106)
theorem at_L24 {w : World} {A : Option Addr} {n : Nat} {xs : List (List S106)} (h : Kd.C (Kd.slice 106 k106) w A n xs) (i : Int) (h0 : 0 ≤ i) (h1 : i < n) : ∃ ad A0 c0,A = some ad ∧ w.cell? (ad.add i.toNat) = some (.slice A0 (rd_L24 xs i).length c0) ∧ (rd_L24 xs i).length ≤ c0 ∧ k106.C w A0 (rd_L24 xs i).length (rd_L24 xs i) := by
  obtain ⟨ad,c,e,_,hK,hc0⟩ := Kd.C_get h ([] : List S106) i h0 h1
  have hc : ∀ j u,c[j]? = some u → w.cell? (ad.add (i.toNat * 1 + j)) = some u := hc0
  obtain ⟨A0,c0,rfl,l0,g0⟩ := hK
  exact ⟨ad,A0,c0,e,by have hq := hc 0 _ rfl;rwa [Nat.mul_one,Nat.add_zero] at hq,l0,g0⟩

/-! #### struct type 31 -/
structure S31 where
  f0 : ByteArray
  f1 : (List ByteArray)
  f2 : Int
  f3 : (List S58)
  f4 : (List S98)
  f5 : (List S100)
  f6 : (List S102)
  f7 : (List S104)
  f8 : (List S106)
  f9 : (List Int)
  f10 : Int
def z31 : S31 := ⟨(⟨#[]⟩ : ByteArray),([] : List ByteArray),(0 : Int),([] : List S58),([] : List S98),([] : List S100),([] : List S102),([] : List S104),([] : List S106),([] : List Int),(0 : Int)⟩
def k31 : Kd S31 := Kd.iso (Kd.pair Kd.string (Kd.pair (Kd.slice 9 Kd.string) (Kd.pair (Kd.int .i64) (Kd.pair (Kd.slice 58 k58) (Kd.pair (Kd.slice 98 k98) (Kd.pair (Kd.slice 100 k100) (Kd.pair (Kd.slice 102 k102) (Kd.pair (Kd.slice 104 k104) (Kd.pair (Kd.slice 106 k106) (Kd.pair (Kd.slice 3 (Kd.int .i64)) (Kd.int .i64))))))))))) (fun x : S31 => (x.f0,x.f1,x.f2,x.f3,x.f4,x.f5,x.f6,x.f7,x.f8,x.f9,x.f10))
theorem k31_open {w : World} {x : S31} {cs : List Value} (h : k31.K w x cs) : ∃ A1 c1 A3 c3 A4 c4 A5 c5 A6 c6 A7 c7 A8 c8 A9 c9,cs = [.string x.f0,.slice A1 x.f1.length c1,.int .i64 x.f2,.slice A3 x.f3.length c3,.slice A4 x.f4.length c4,.slice A5 x.f5.length c5,.slice A6 x.f6.length c6,.slice A7 x.f7.length c7,.slice A8 x.f8.length c8,.slice A9 x.f9.length c9,.int .i64 x.f10] ∧ x.f1.length ≤ c1 ∧ Kd.string.C w A1 x.f1.length x.f1 ∧ x.f3.length ≤ c3 ∧ k58.C w A3 x.f3.length x.f3 ∧ x.f4.length ≤ c4 ∧ k98.C w A4 x.f4.length x.f4 ∧ x.f5.length ≤ c5 ∧ k100.C w A5 x.f5.length x.f5 ∧ x.f6.length ≤ c6 ∧ k102.C w A6 x.f6.length x.f6 ∧ x.f7.length ≤ c7 ∧ k104.C w A7 x.f7.length x.f7 ∧ x.f8.length ≤ c8 ∧ k106.C w A8 x.f8.length x.f8 ∧ x.f9.length ≤ c9 ∧ (Kd.int .i64).C w A9 x.f9.length x.f9 := by
  obtain ⟨_,_,rfl,rfl,⟨_,_,rfl,⟨A1,c1,rfl,l1,g1⟩,⟨_,_,rfl,rfl,⟨_,_,rfl,⟨A3,c3,rfl,l3,g3⟩,⟨_,_,rfl,⟨A4,c4,rfl,l4,g4⟩,⟨_,_,rfl,⟨A5,c5,rfl,l5,g5⟩,⟨_,_,rfl,⟨A6,c6,rfl,l6,g6⟩,⟨_,_,rfl,⟨A7,c7,rfl,l7,g7⟩,⟨_,_,rfl,⟨A8,c8,rfl,l8,g8⟩,⟨_,_,rfl,⟨A9,c9,rfl,l9,g9⟩,rfl⟩⟩⟩⟩⟩⟩⟩⟩⟩⟩ := h
  exact ⟨A1,c1,A3,c3,A4,c4,A5,c5,A6,c6,A7,c7,A8,c8,A9,c9,rfl,l1,g1,l3,g3,l4,g4,l5,g5,l6,g6,l7,g7,l8,g8,l9,g9⟩
theorem k31_openM {w : World} {base : Nat} {ok : Nat → Prop} {x : S31} {cs : List Value} (h : k31.M w base ok x cs) : ∃ v1 v3 v4 v5 v6 v7 v8 v9,cs = [.string x.f0,v1,.int .i64 x.f2,v3,v4,v5,v6,v7,v8,v9,.int .i64 x.f10] ∧ Kd.string.R 9 w base ok v1 x.f1 ∧ k58.R 58 w base ok v3 x.f3 ∧ k98.R 98 w base ok v4 x.f4 ∧ k100.R 100 w base ok v5 x.f5 ∧ k102.R 102 w base ok v6 x.f6 ∧ k104.R 104 w base ok v7 x.f7 ∧ k106.R 106 w base ok v8 x.f8 ∧ (Kd.int .i64).R 3 w base ok v9 x.f9 := by
  obtain ⟨_,_,rfl,rfl,⟨_,_,rfl,⟨v1,rfl,g1⟩,⟨_,_,rfl,rfl,⟨_,_,rfl,⟨v3,rfl,g3⟩,⟨_,_,rfl,⟨v4,rfl,g4⟩,⟨_,_,rfl,⟨v5,rfl,g5⟩,⟨_,_,rfl,⟨v6,rfl,g6⟩,⟨_,_,rfl,⟨v7,rfl,g7⟩,⟨_,_,rfl,⟨v8,rfl,g8⟩,⟨_,_,rfl,⟨v9,rfl,g9⟩,rfl⟩⟩⟩⟩⟩⟩⟩⟩⟩⟩ := h
  exact ⟨v1,v3,v4,v5,v6,v7,v8,v9,rfl,g1,g3,g4,g5,g6,g7,g8,g9⟩
theorem k31_mk (w : World) (x : S31) {A1 : Option Addr} {c1 : Nat} (l1 : x.f1.length ≤ c1) (g1 : Kd.string.C w A1 x.f1.length x.f1) {A3 : Option Addr} {c3 : Nat} (l3 : x.f3.length ≤ c3) (g3 : k58.C w A3 x.f3.length x.f3) {A4 : Option Addr} {c4 : Nat} (l4 : x.f4.length ≤ c4) (g4 : k98.C w A4 x.f4.length x.f4) {A5 : Option Addr} {c5 : Nat} (l5 : x.f5.length ≤ c5) (g5 : k100.C w A5 x.f5.length x.f5) {A6 : Option Addr} {c6 : Nat} (l6 : x.f6.length ≤ c6) (g6 : k102.C w A6 x.f6.length x.f6) {A7 : Option Addr} {c7 : Nat} (l7 : x.f7.length ≤ c7) (g7 : k104.C w A7 x.f7.length x.f7) {A8 : Option Addr} {c8 : Nat} (l8 : x.f8.length ≤ c8) (g8 : k106.C w A8 x.f8.length x.f8) {A9 : Option Addr} {c9 : Nat} (l9 : x.f9.length ≤ c9) (g9 : (Kd.int .i64).C w A9 x.f9.length x.f9) : k31.K w x [.string x.f0,.slice A1 x.f1.length c1,.int .i64 x.f2,.slice A3 x.f3.length c3,.slice A4 x.f4.length c4,.slice A5 x.f5.length c5,.slice A6 x.f6.length c6,.slice A7 x.f7.length c7,.slice A8 x.f8.length c8,.slice A9 x.f9.length c9,.int .i64 x.f10] := ⟨[.string x.f0],[.slice A1 x.f1.length c1,.int .i64 x.f2,.slice A3 x.f3.length c3,.slice A4 x.f4.length c4,.slice A5 x.f5.length c5,.slice A6 x.f6.length c6,.slice A7 x.f7.length c7,.slice A8 x.f8.length c8,.slice A9 x.f9.length c9,.int .i64 x.f10],rfl,rfl,⟨[.slice A1 x.f1.length c1],[.int .i64 x.f2,.slice A3 x.f3.length c3,.slice A4 x.f4.length c4,.slice A5 x.f5.length c5,.slice A6 x.f6.length c6,.slice A7 x.f7.length c7,.slice A8 x.f8.length c8,.slice A9 x.f9.length c9,.int .i64 x.f10],rfl,⟨A1,c1,rfl,l1,g1⟩,⟨[.int .i64 x.f2],[.slice A3 x.f3.length c3,.slice A4 x.f4.length c4,.slice A5 x.f5.length c5,.slice A6 x.f6.length c6,.slice A7 x.f7.length c7,.slice A8 x.f8.length c8,.slice A9 x.f9.length c9,.int .i64 x.f10],rfl,rfl,⟨[.slice A3 x.f3.length c3],[.slice A4 x.f4.length c4,.slice A5 x.f5.length c5,.slice A6 x.f6.length c6,.slice A7 x.f7.length c7,.slice A8 x.f8.length c8,.slice A9 x.f9.length c9,.int .i64 x.f10],rfl,⟨A3,c3,rfl,l3,g3⟩,⟨[.slice A4 x.f4.length c4],[.slice A5 x.f5.length c5,.slice A6 x.f6.length c6,.slice A7 x.f7.length c7,.slice A8 x.f8.length c8,.slice A9 x.f9.length c9,.int .i64 x.f10],rfl,⟨A4,c4,rfl,l4,g4⟩,⟨[.slice A5 x.f5.length c5],[.slice A6 x.f6.length c6,.slice A7 x.f7.length c7,.slice A8 x.f8.length c8,.slice A9 x.f9.length c9,.int .i64 x.f10],rfl,⟨A5,c5,rfl,l5,g5⟩,⟨[.slice A6 x.f6.length c6],[.slice A7 x.f7.length c7,.slice A8 x.f8.length c8,.slice A9 x.f9.length c9,.int .i64 x.f10],rfl,⟨A6,c6,rfl,l6,g6⟩,⟨[.slice A7 x.f7.length c7],[.slice A8 x.f8.length c8,.slice A9 x.f9.length c9,.int .i64 x.f10],rfl,⟨A7,c7,rfl,l7,g7⟩,⟨[.slice A8 x.f8.length c8],[.slice A9 x.f9.length c9,.int .i64 x.f10],rfl,⟨A8,c8,rfl,l8,g8⟩,⟨[.slice A9 x.f9.length c9],[.int .i64 x.f10],rfl,⟨A9,c9,rfl,l9,g9⟩,rfl⟩⟩⟩⟩⟩⟩⟩⟩⟩⟩
theorem k31_mkM (w : World) (base : Nat) (ok : Nat → Prop) (x : S31) {v1 : Value} (g1 : Kd.string.R 9 w base ok v1 x.f1) {v3 : Value} (g3 : k58.R 58 w base ok v3 x.f3) {v4 : Value} (g4 : k98.R 98 w base ok v4 x.f4) {v5 : Value} (g5 : k100.R 100 w base ok v5 x.f5) {v6 : Value} (g6 : k102.R 102 w base ok v6 x.f6) {v7 : Value} (g7 : k104.R 104 w base ok v7 x.f7) {v8 : Value} (g8 : k106.R 106 w base ok v8 x.f8) {v9 : Value} (g9 : (Kd.int .i64).R 3 w base ok v9 x.f9) : k31.M w base ok x [.string x.f0,v1,.int .i64 x.f2,v3,v4,v5,v6,v7,v8,v9,.int .i64 x.f10] := ⟨[.string x.f0],[v1,.int .i64 x.f2,v3,v4,v5,v6,v7,v8,v9,.int .i64 x.f10],rfl,rfl,⟨[v1],[.int .i64 x.f2,v3,v4,v5,v6,v7,v8,v9,.int .i64 x.f10],rfl,⟨v1,rfl,g1⟩,⟨[.int .i64 x.f2],[v3,v4,v5,v6,v7,v8,v9,.int .i64 x.f10],rfl,rfl,⟨[v3],[v4,v5,v6,v7,v8,v9,.int .i64 x.f10],rfl,⟨v3,rfl,g3⟩,⟨[v4],[v5,v6,v7,v8,v9,.int .i64 x.f10],rfl,⟨v4,rfl,g4⟩,⟨[v5],[v6,v7,v8,v9,.int .i64 x.f10],rfl,⟨v5,rfl,g5⟩,⟨[v6],[v7,v8,v9,.int .i64 x.f10],rfl,⟨v6,rfl,g6⟩,⟨[v7],[v8,v9,.int .i64 x.f10],rfl,⟨v7,rfl,g7⟩,⟨[v8],[v9,.int .i64 x.f10],rfl,⟨v8,rfl,g8⟩,⟨[v9],[.int .i64 x.f10],rfl,⟨v9,rfl,g9⟩,rfl⟩⟩⟩⟩⟩⟩⟩⟩⟩⟩
def rd_T31 (xs : List S31) (i : Int) : S31 := xs.getD i.toNat z31
theorem at_T31 {w : World} {A : Option Addr} {n : Nat} {xs : List S31} (h : Kd.C k31 w A n xs) (i : Int) (h0 : 0 ≤ i) (h1 : i < n) : ∃ ad A1 c1 A3 c3 A4 c4 A5 c5 A6 c6 A7 c7 A8 c8 A9 c9,A = some ad ∧ w.cell? (ad.add (i.toNat * 11)) = some (.string (rd_T31 xs i).f0) ∧ w.cell? ⟨(ad.add (i.toNat * 11)).block,(ad.add (i.toNat * 11)).off + 1,none⟩ = some (.slice A1 (rd_T31 xs i).f1.length c1) ∧ w.cell? ⟨(ad.add (i.toNat * 11)).block,(ad.add (i.toNat * 11)).off + 2,none⟩ = some (.int .i64 (rd_T31 xs i).f2) ∧ w.cell? ⟨(ad.add (i.toNat * 11)).block,(ad.add (i.toNat * 11)).off + 3,none⟩ = some (.slice A3 (rd_T31 xs i).f3.length c3) ∧ w.cell? ⟨(ad.add (i.toNat * 11)).block,(ad.add (i.toNat * 11)).off + 4,none⟩ = some (.slice A4 (rd_T31 xs i).f4.length c4) ∧ w.cell? ⟨(ad.add (i.toNat * 11)).block,(ad.add (i.toNat * 11)).off + 5,none⟩ = some (.slice A5 (rd_T31 xs i).f5.length c5) ∧ w.cell? ⟨(ad.add (i.toNat * 11)).block,(ad.add (i.toNat * 11)).off + 6,none⟩ = some (.slice A6 (rd_T31 xs i).f6.length c6) ∧ w.cell? ⟨(ad.add (i.toNat * 11)).block,(ad.add (i.toNat * 11)).off + 7,none⟩ = some (.slice A7 (rd_T31 xs i).f7.length c7) ∧ w.cell? ⟨(ad.add (i.toNat * 11)).block,(ad.add (i.toNat * 11)).off + 8,none⟩ = some (.slice A8 (rd_T31 xs i).f8.length c8) ∧ w.cell? ⟨(ad.add (i.toNat * 11)).block,(ad.add (i.toNat * 11)).off + 9,none⟩ = some (.slice A9 (rd_T31 xs i).f9.length c9) ∧ w.cell? ⟨(ad.add (i.toNat * 11)).block,(ad.add (i.toNat * 11)).off + 10,none⟩ = some (.int .i64 (rd_T31 xs i).f10) ∧ (rd_T31 xs i).f1.length ≤ c1 ∧ Kd.string.C w A1 (rd_T31 xs i).f1.length (rd_T31 xs i).f1 ∧ (rd_T31 xs i).f3.length ≤ c3 ∧ k58.C w A3 (rd_T31 xs i).f3.length (rd_T31 xs i).f3 ∧ (rd_T31 xs i).f4.length ≤ c4 ∧ k98.C w A4 (rd_T31 xs i).f4.length (rd_T31 xs i).f4 ∧ (rd_T31 xs i).f5.length ≤ c5 ∧ k100.C w A5 (rd_T31 xs i).f5.length (rd_T31 xs i).f5 ∧ (rd_T31 xs i).f6.length ≤ c6 ∧ k102.C w A6 (rd_T31 xs i).f6.length (rd_T31 xs i).f6 ∧ (rd_T31 xs i).f7.length ≤ c7 ∧ k104.C w A7 (rd_T31 xs i).f7.length (rd_T31 xs i).f7 ∧ (rd_T31 xs i).f8.length ≤ c8 ∧ k106.C w A8 (rd_T31 xs i).f8.length (rd_T31 xs i).f8 ∧ (rd_T31 xs i).f9.length ≤ c9 ∧ (Kd.int .i64).C w A9 (rd_T31 xs i).f9.length (rd_T31 xs i).f9 := by
  obtain ⟨ad,c,e,_,hK,hc0⟩ := Kd.C_get h z31 i h0 h1
  have hc : ∀ j u,c[j]? = some u → w.cell? (ad.add (i.toNat * 11 + j)) = some u := hc0
  obtain ⟨A1,c1,A3,c3,A4,c4,A5,c5,A6,c6,A7,c7,A8,c8,A9,c9,rfl,l1,g1,l3,g3,l4,g4,l5,g5,l6,g6,l7,g7,l8,g8,l9,g9⟩ := k31_open hK
  exact ⟨ad,A1,c1,A3,c3,A4,c4,A5,c5,A6,c6,A7,c7,A8,c8,A9,c9,e,hc 0 _ rfl,by rw [← add_field _ _ 1 (by omega)];exact hc 1 _ rfl,by rw [← add_field _ _ 2 (by omega)];exact hc 2 _ rfl,by rw [← add_field _ _ 3 (by omega)];exact hc 3 _ rfl,by rw [← add_field _ _ 4 (by omega)];exact hc 4 _ rfl,by rw [← add_field _ _ 5 (by omega)];exact hc 5 _ rfl,by rw [← add_field _ _ 6 (by omega)];exact hc 6 _ rfl,by rw [← add_field _ _ 7 (by omega)];exact hc 7 _ rfl,by rw [← add_field _ _ 8 (by omega)];exact hc 8 _ rfl,by rw [← add_field _ _ 9 (by omega)];exact hc 9 _ rfl,by rw [← add_field _ _ 10 (by omega)];exact hc 10 _ rfl,l1,g1,l3,g3,l4,g4,l5,g5,l6,g6,l7,g7,l8,g8,l9,g9⟩

def rd_L26 (xs : List (List S47)) (i : Int) : (List S47) := xs.getD i.toNat ([] : List S47)
theorem at_L26 {w : World} {A : Option Addr} {n : Nat} {xs : List (List S47)} (h : Kd.C (Kd.slice 47 k47) w A n xs) (i : Int) (h0 : 0 ≤ i) (h1 : i < n) : ∃ ad A0 c0,A = some ad ∧ w.cell? (ad.add i.toNat) = some (.slice A0 (rd_L26 xs i).length c0) ∧ (rd_L26 xs i).length ≤ c0 ∧ k47.C w A0 (rd_L26 xs i).length (rd_L26 xs i) := by
  obtain ⟨ad,c,e,_,hK,hc0⟩ := Kd.C_get h ([] : List S47) i h0 h1
  have hc : ∀ j u,c[j]? = some u → w.cell? (ad.add (i.toNat * 1 + j)) = some u := hc0
  obtain ⟨A0,c0,rfl,l0,g0⟩ := hK
  exact ⟨ad,A0,c0,e,by have hq := hc 0 _ rfl;rwa [Nat.mul_one,Nat.add_zero] at hq,l0,g0⟩

def rd_L28 (xs : List (List Bool)) (i : Int) : (List Bool) := xs.getD i.toNat ([] : List Bool)
theorem at_L28 {w : World} {A : Option Addr} {n : Nat} {xs : List (List Bool)} (h : Kd.C (Kd.slice 4 Kd.bool) w A n xs) (i : Int) (h0 : 0 ≤ i) (h1 : i < n) : ∃ ad A0 c0,A = some ad ∧ w.cell? (ad.add i.toNat) = some (.slice A0 (rd_L28 xs i).length c0) ∧ (rd_L28 xs i).length ≤ c0 ∧ Kd.bool.C w A0 (rd_L28 xs i).length (rd_L28 xs i) := by
  obtain ⟨ad,c,e,_,hK,hc0⟩ := Kd.C_get h ([] : List Bool) i h0 h1
  have hc : ∀ j u,c[j]? = some u → w.cell? (ad.add (i.toNat * 1 + j)) = some u := hc0
  obtain ⟨A0,c0,rfl,l0,g0⟩ := hK
  exact ⟨ad,A0,c0,e,by have hq := hc 0 _ rfl;rwa [Nat.mul_one,Nat.add_zero] at hq,l0,g0⟩

end Go.Proofs.Ythmbleephognnaa.Q
