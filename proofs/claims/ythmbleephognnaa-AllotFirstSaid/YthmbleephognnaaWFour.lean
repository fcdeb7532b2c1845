-- words of the print, cut down by prune.py to what this seat's claims use
import Derived.Test.YthmbleephognnaaWTab
namespace Go.Proofs.YthmbleephognnaaW.PrintLast
section
variable {P : Program} {ops : Array Oper} {Q : Exit → Act → World → Prop} {md : Region.Mode} {S : World → Prop} {ds : List Nat} {T : Bool × List (List Nat × List Nat)}
end
end Go.Proofs.YthmbleephognnaaW.PrintLast
