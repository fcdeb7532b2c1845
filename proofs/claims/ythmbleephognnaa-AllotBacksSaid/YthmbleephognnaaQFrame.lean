-- written by xprint.py (this session's program): what readings of the laws' types tell
import Derived.Test.YthmbleephognnaaQx0
import Derived.Test.YthmbleephognnaaOpen
import Derived.KernelRfl
namespace Go.Proofs.Ythmbleephognnaa.Q
open Go Go.RowKit Go.ChangeShapes Go.WideShapes Go.Proofs.YthmbleephognnaaW.PrintWords Go.Proofs.Ythmbleephognnaa.Frame
set_option linter.unusedVariables false
theorem o9 : Opens Try.prog 9 Kd.string (fun x => x.size ≤ maxLen) := Opens.string Try.underlying9 (by kernel_rfl)
theorem o22 : Opens Try.prog 22 (Kd.slice 9 Kd.string) (fun x => (x.length ≤ maxLen ∧ ∀ x_ ∈ x, x_.size ≤ maxLen)) := Opens.slice ((⟨#[]⟩ : ByteArray)) Try.underlying22 (by kernel_rfl) o9
theorem o3 : Opens Try.prog 3 (Kd.int .i64) (fun x => (Lit.int .i64 x).wf = true) := Opens.int Try.underlying3 (by kernel_rfl)
def ok108 (x : S108) : Prop := (Lit.int .i64 x.f0).wf = true ∧ (Lit.int .i64 x.f1).wf = true
theorem o108 : Opens Try.prog 108 k108 ok108 := by
  have h_ := Opens.struct (t := 108) (fun x : S108 => (x.f0, x.f1)) (fun a => (⟨a.1, a.2⟩ : S108)) (fun _ => rfl) Try.underlying108 (by kernel_rfl) (OpensAt.cons rfl o3 (OpensAt.one rfl o3))
  exact h_
theorem o55 : Opens Try.prog 55 (Kd.slice 108 k108) (fun x => (x.length ≤ maxLen ∧ ∀ x_ ∈ x, ok108 x_)) := Opens.slice (z108) Try.underlying55 (by kernel_rfl) o108
theorem o29 : Opens Try.prog 29 (Kd.slice 3 (Kd.int .i64)) (fun x => (x.length ≤ maxLen ∧ ∀ x_ ∈ x, (Lit.int .i64 x_).wf = true)) := Opens.slice (0) Try.underlying29 (by kernel_rfl) o3
def ok110 (x : S110) : Prop := (Lit.int .i64 x.f0).wf = true ∧ (Lit.int .i64 x.f1).wf = true
theorem o110 : Opens Try.prog 110 k110 ok110 := by
  have h_ := Opens.struct (t := 110) (fun x : S110 => (x.f0, x.f1)) (fun a => (⟨a.1, a.2⟩ : S110)) (fun _ => rfl) Try.underlying110 (by kernel_rfl) (OpensAt.cons rfl o3 (OpensAt.one rfl o3))
  exact h_
theorem o56 : Opens Try.prog 56 (Kd.slice 110 k110) (fun x => (x.length ≤ maxLen ∧ ∀ x_ ∈ x, ok110 x_)) := Opens.slice (z110) Try.underlying56 (by kernel_rfl) o110
def ok58 (x : S58) : Prop := x.f0.size ≤ maxLen ∧ (Lit.int .i64 x.f1).wf = true ∧ (Lit.int .i64 x.f2).wf = true ∧ (Lit.int .i64 x.f3).wf = true ∧ (x.f4.length ≤ maxLen ∧ ∀ x_ ∈ x.f4, ok108 x_) ∧ (x.f5.length ≤ maxLen ∧ ∀ x_ ∈ x.f5, (Lit.int .i64 x_).wf = true) ∧ (Lit.int .i64 x.f6).wf = true ∧ (Lit.int .i64 x.f7).wf = true ∧ (Lit.int .i64 x.f8).wf = true ∧ (Lit.int .i64 x.f9).wf = true ∧ (Lit.int .i64 x.f10).wf = true ∧ (x.f11.length ≤ maxLen ∧ ∀ x_ ∈ x.f11, ok110 x_)
theorem o58 : Opens Try.prog 58 k58 ok58 := by
  have h_ := Opens.struct (t := 58) (fun x : S58 => (x.f0, x.f1, x.f2, x.f3, x.f4, x.f5, x.f6, x.f7, x.f8, x.f9, x.f10, x.f11)) (fun a => (⟨a.1, a.2.1, a.2.2.1, a.2.2.2.1, a.2.2.2.2.1, a.2.2.2.2.2.1, a.2.2.2.2.2.2.1, a.2.2.2.2.2.2.2.1, a.2.2.2.2.2.2.2.2.1, a.2.2.2.2.2.2.2.2.2.1, a.2.2.2.2.2.2.2.2.2.2.1, a.2.2.2.2.2.2.2.2.2.2.2⟩ : S58)) (fun _ => rfl) Try.underlying58 (by kernel_rfl) (OpensAt.cons rfl o9 (OpensAt.cons rfl o3 (OpensAt.cons rfl o3 (OpensAt.cons rfl o3 (OpensAt.cons rfl o55 (OpensAt.cons rfl o29 (OpensAt.cons rfl o3 (OpensAt.cons rfl o3 (OpensAt.cons rfl o3 (OpensAt.cons rfl o3 (OpensAt.cons rfl o3 (OpensAt.one rfl o56))))))))))))
  exact h_
theorem o23 : Opens Try.prog 23 (Kd.slice 58 k58) (fun x => (x.length ≤ maxLen ∧ ∀ x_ ∈ x, ok58 x_)) := Opens.slice (z58) Try.underlying23 (by kernel_rfl) o58
def ok96 (x : S96) : Prop := (x.f0.length ≤ maxLen ∧ ∀ x_ ∈ x.f0, ok108 x_) ∧ (x.f1.length ≤ maxLen ∧ ∀ x_ ∈ x.f1, ok108 x_)
theorem o96 : Opens Try.prog 96 k96 ok96 := by
  have h_ := Opens.struct (t := 96) (fun x : S96 => (x.f0, x.f1)) (fun a => (⟨a.1, a.2⟩ : S96)) (fun _ => rfl) Try.underlying96 (by kernel_rfl) (OpensAt.cons rfl o55 (OpensAt.one rfl o55))
  exact h_
def ok98 (x : S98) : Prop := x.f0.size ≤ maxLen ∧ (Lit.int .i64 x.f1).wf = true ∧ (Lit.int .i64 x.f2).wf = true ∧ (Lit.int .i64 x.f3).wf = true ∧ (x.f4.length ≤ maxLen ∧ ∀ x_ ∈ x.f4, ok108 x_) ∧ ok96 x.f5 ∧ (Lit.int .i64 x.f6).wf = true ∧ (Lit.int .i64 x.f7).wf = true ∧ (Lit.int .i64 x.f8).wf = true ∧ (Lit.int .i64 x.f9).wf = true ∧ (Lit.int .i64 x.f10).wf = true ∧ (Lit.int .i64 x.f11).wf = true ∧ (Lit.int .i64 x.f12).wf = true ∧ (Lit.int .i64 x.f13).wf = true ∧ (Lit.int .i64 x.f14).wf = true ∧ (Lit.int .i64 x.f15).wf = true ∧ (Lit.int .i64 x.f16).wf = true
theorem o98 : Opens Try.prog 98 k98 ok98 := by
  have h_ := Opens.struct (t := 98) (fun x : S98 => (x.f0, x.f1, x.f2, x.f3, x.f4, x.f5, x.f6, x.f7, x.f8, x.f9, x.f10, x.f11, x.f12, x.f13, x.f14, x.f15, x.f16)) (fun a => (⟨a.1, a.2.1, a.2.2.1, a.2.2.2.1, a.2.2.2.2.1, a.2.2.2.2.2.1, a.2.2.2.2.2.2.1, a.2.2.2.2.2.2.2.1, a.2.2.2.2.2.2.2.2.1, a.2.2.2.2.2.2.2.2.2.1, a.2.2.2.2.2.2.2.2.2.2.1, a.2.2.2.2.2.2.2.2.2.2.2.1, a.2.2.2.2.2.2.2.2.2.2.2.2.1, a.2.2.2.2.2.2.2.2.2.2.2.2.2.1, a.2.2.2.2.2.2.2.2.2.2.2.2.2.2.1, a.2.2.2.2.2.2.2.2.2.2.2.2.2.2.2.1, a.2.2.2.2.2.2.2.2.2.2.2.2.2.2.2.2⟩ : S98)) (fun _ => rfl) Try.underlying98 (by kernel_rfl) (OpensAt.cons rfl o9 (OpensAt.cons rfl o3 (OpensAt.cons rfl o3 (OpensAt.cons rfl o3 (OpensAt.cons rfl o55 (OpensAt.cons rfl o96 (OpensAt.cons rfl o3 (OpensAt.cons rfl o3 (OpensAt.cons rfl o3 (OpensAt.cons rfl o3 (OpensAt.cons rfl o3 (OpensAt.cons rfl o3 (OpensAt.cons rfl o3 (OpensAt.cons rfl o3 (OpensAt.cons rfl o3 (OpensAt.cons rfl o3 (OpensAt.one rfl o3)))))))))))))))))
  exact h_
theorem o24 : Opens Try.prog 24 (Kd.slice 98 k98) (fun x => (x.length ≤ maxLen ∧ ∀ x_ ∈ x, ok98 x_)) := Opens.slice (z98) Try.underlying24 (by kernel_rfl) o98
def ok100 (x : S100) : Prop := x.f0.size ≤ maxLen ∧ (Lit.int .i64 x.f1).wf = true ∧ (Lit.int .i64 x.f2).wf = true ∧ (Lit.int .i64 x.f3).wf = true ∧ (Lit.int .i64 x.f4).wf = true ∧ (Lit.int .i64 x.f5).wf = true ∧ (Lit.int .i64 x.f6).wf = true
theorem o100 : Opens Try.prog 100 k100 ok100 := by
  have h_ := Opens.struct (t := 100) (fun x : S100 => (x.f0, x.f1, x.f2, x.f3, x.f4, x.f5, x.f6)) (fun a => (⟨a.1, a.2.1, a.2.2.1, a.2.2.2.1, a.2.2.2.2.1, a.2.2.2.2.2.1, a.2.2.2.2.2.2⟩ : S100)) (fun _ => rfl) Try.underlying100 (by kernel_rfl) (OpensAt.cons rfl o9 (OpensAt.cons rfl o3 (OpensAt.cons rfl o3 (OpensAt.cons rfl o3 (OpensAt.cons rfl o3 (OpensAt.cons rfl o3 (OpensAt.one rfl o3)))))))
  exact h_
theorem o25 : Opens Try.prog 25 (Kd.slice 100 k100) (fun x => (x.length ≤ maxLen ∧ ∀ x_ ∈ x, ok100 x_)) := Opens.slice (z100) Try.underlying25 (by kernel_rfl) o100
def ok102 (x : S102) : Prop := x.f0.size ≤ maxLen ∧ (Lit.int .i64 x.f1).wf = true ∧ (Lit.int .i64 x.f2).wf = true ∧ (Lit.int .i64 x.f3).wf = true ∧ (Lit.int .i64 x.f4).wf = true
theorem o102 : Opens Try.prog 102 k102 ok102 := by
  have h_ := Opens.struct (t := 102) (fun x : S102 => (x.f0, x.f1, x.f2, x.f3, x.f4)) (fun a => (⟨a.1, a.2.1, a.2.2.1, a.2.2.2.1, a.2.2.2.2⟩ : S102)) (fun _ => rfl) Try.underlying102 (by kernel_rfl) (OpensAt.cons rfl o9 (OpensAt.cons rfl o3 (OpensAt.cons rfl o3 (OpensAt.cons rfl o3 (OpensAt.one rfl o3)))))
  exact h_
theorem o26 : Opens Try.prog 26 (Kd.slice 102 k102) (fun x => (x.length ≤ maxLen ∧ ∀ x_ ∈ x, ok102 x_)) := Opens.slice (z102) Try.underlying26 (by kernel_rfl) o102
def ok104 (x : S104) : Prop := x.f0.size ≤ maxLen ∧ (Lit.int .i64 x.f1).wf = true ∧ (Lit.int .i64 x.f2).wf = true ∧ (Lit.int .i64 x.f3).wf = true ∧ (Lit.int .i64 x.f4).wf = true ∧ (Lit.int .i64 x.f5).wf = true ∧ (Lit.int .i64 x.f6).wf = true
theorem o104 : Opens Try.prog 104 k104 ok104 := by
  have h_ := Opens.struct (t := 104) (fun x : S104 => (x.f0, x.f1, x.f2, x.f3, x.f4, x.f5, x.f6)) (fun a => (⟨a.1, a.2.1, a.2.2.1, a.2.2.2.1, a.2.2.2.2.1, a.2.2.2.2.2.1, a.2.2.2.2.2.2⟩ : S104)) (fun _ => rfl) Try.underlying104 (by kernel_rfl) (OpensAt.cons rfl o9 (OpensAt.cons rfl o3 (OpensAt.cons rfl o3 (OpensAt.cons rfl o3 (OpensAt.cons rfl o3 (OpensAt.cons rfl o3 (OpensAt.one rfl o3)))))))
  exact h_
theorem o27 : Opens Try.prog 27 (Kd.slice 104 k104) (fun x => (x.length ≤ maxLen ∧ ∀ x_ ∈ x, ok104 x_)) := Opens.slice (z104) Try.underlying27 (by kernel_rfl) o104
def ok106 (x : S106) : Prop := x.f0.size ≤ maxLen ∧ (Lit.int .i64 x.f1).wf = true
theorem o106 : Opens Try.prog 106 k106 ok106 := by
  have h_ := Opens.struct (t := 106) (fun x : S106 => (x.f0, x.f1)) (fun a => (⟨a.1, a.2⟩ : S106)) (fun _ => rfl) Try.underlying106 (by kernel_rfl) (OpensAt.cons rfl o9 (OpensAt.one rfl o3))
  exact h_
theorem o28 : Opens Try.prog 28 (Kd.slice 106 k106) (fun x => (x.length ≤ maxLen ∧ ∀ x_ ∈ x, ok106 x_)) := Opens.slice (z106) Try.underlying28 (by kernel_rfl) o106
def ok31 (x : S31) : Prop := x.f0.size ≤ maxLen ∧ (x.f1.length ≤ maxLen ∧ ∀ x_ ∈ x.f1, x_.size ≤ maxLen) ∧ (Lit.int .i64 x.f2).wf = true ∧ (x.f3.length ≤ maxLen ∧ ∀ x_ ∈ x.f3, ok58 x_) ∧ (x.f4.length ≤ maxLen ∧ ∀ x_ ∈ x.f4, ok98 x_) ∧ (x.f5.length ≤ maxLen ∧ ∀ x_ ∈ x.f5, ok100 x_) ∧ (x.f6.length ≤ maxLen ∧ ∀ x_ ∈ x.f6, ok102 x_) ∧ (x.f7.length ≤ maxLen ∧ ∀ x_ ∈ x.f7, ok104 x_) ∧ (x.f8.length ≤ maxLen ∧ ∀ x_ ∈ x.f8, ok106 x_) ∧ (x.f9.length ≤ maxLen ∧ ∀ x_ ∈ x.f9, (Lit.int .i64 x_).wf = true) ∧ (Lit.int .i64 x.f10).wf = true
theorem o31 : Opens Try.prog 31 k31 ok31 := by
  have h_ := Opens.struct (t := 31) (fun x : S31 => (x.f0, x.f1, x.f2, x.f3, x.f4, x.f5, x.f6, x.f7, x.f8, x.f9, x.f10)) (fun a => (⟨a.1, a.2.1, a.2.2.1, a.2.2.2.1, a.2.2.2.2.1, a.2.2.2.2.2.1, a.2.2.2.2.2.2.1, a.2.2.2.2.2.2.2.1, a.2.2.2.2.2.2.2.2.1, a.2.2.2.2.2.2.2.2.2.1, a.2.2.2.2.2.2.2.2.2.2⟩ : S31)) (fun _ => rfl) Try.underlying31 (by kernel_rfl) (OpensAt.cons rfl o9 (OpensAt.cons rfl o22 (OpensAt.cons rfl o3 (OpensAt.cons rfl o23 (OpensAt.cons rfl o24 (OpensAt.cons rfl o25 (OpensAt.cons rfl o26 (OpensAt.cons rfl o27 (OpensAt.cons rfl o28 (OpensAt.cons rfl o29 (OpensAt.one rfl o3)))))))))))
  exact h_
def ok45 (x : S45) : Prop := (Lit.int .i64 x.f0).wf = true ∧ (Lit.int .i64 x.f1).wf = true ∧ (Lit.int .i64 x.f2).wf = true ∧ (Lit.int .i64 x.f3).wf = true ∧ (Lit.int .i64 x.f4).wf = true ∧ (Lit.int .i64 x.f5).wf = true ∧ (Lit.int .i64 x.f6).wf = true ∧ (Lit.int .i64 x.f7).wf = true ∧ (Lit.int .i64 x.f8).wf = true
theorem o45 : Opens Try.prog 45 k45 ok45 := by
  have h_ := Opens.struct (t := 45) (fun x : S45 => (x.f0, x.f1, x.f2, x.f3, x.f4, x.f5, x.f6, x.f7, x.f8)) (fun a => (⟨a.1, a.2.1, a.2.2.1, a.2.2.2.1, a.2.2.2.2.1, a.2.2.2.2.2.1, a.2.2.2.2.2.2.1, a.2.2.2.2.2.2.2.1, a.2.2.2.2.2.2.2.2⟩ : S45)) (fun _ => rfl) Try.underlying45 (by kernel_rfl) (OpensAt.cons rfl o3 (OpensAt.cons rfl o3 (OpensAt.cons rfl o3 (OpensAt.cons rfl o3 (OpensAt.cons rfl o3 (OpensAt.cons rfl o3 (OpensAt.cons rfl o3 (OpensAt.cons rfl o3 (OpensAt.one rfl o3)))))))))
  exact h_
theorem o32 : Opens Try.prog 32 (Kd.slice 45 k45) (fun x => (x.length ≤ maxLen ∧ ∀ x_ ∈ x, ok45 x_)) := Opens.slice (z45) Try.underlying32 (by kernel_rfl) o45
def ok47 (x : S47) : Prop := (Lit.int .i64 x.f0).wf = true ∧ (Lit.int .i64 x.f1).wf = true
theorem o47 : Opens Try.prog 47 k47 ok47 := by
  have h_ := Opens.struct (t := 47) (fun x : S47 => (x.f0, x.f1)) (fun a => (⟨a.1, a.2⟩ : S47)) (fun _ => rfl) Try.underlying47 (by kernel_rfl) (OpensAt.cons rfl o3 (OpensAt.one rfl o3))
  exact h_
theorem o33 : Opens Try.prog 33 (Kd.slice 47 k47) (fun x => (x.length ≤ maxLen ∧ ∀ x_ ∈ x, ok47 x_)) := Opens.slice (z47) Try.underlying33 (by kernel_rfl) o47
theorem o4 : Opens Try.prog 4 Kd.bool (fun x => True) := Opens.bool Try.underlying4 (by kernel_rfl)
theorem o52 : Opens Try.prog 52 (Kd.slice 4 Kd.bool) (fun x => (x.length ≤ maxLen ∧ ∀ x_ ∈ x, True)) := Opens.slice (false) Try.underlying52 (by kernel_rfl) o4
end Go.Proofs.Ythmbleephognnaa.Q
