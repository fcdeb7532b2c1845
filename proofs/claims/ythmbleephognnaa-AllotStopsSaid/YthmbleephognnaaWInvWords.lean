-- words of the print, cut down by prune.py to what this seat's claims use
import Derived.Test.YthmbleephognnaaWInv
import Derived.Test.YthmbleephognnaaWFootNe
namespace Go.Proofs.YthmbleephognnaaW.PrintWords
open Go.RowKit
end Go.Proofs.YthmbleephognnaaW.PrintWords
namespace Go.Proofs.YthmbleephognnaaW.PrintLast
section
variable {ops : Array Oper} {a : Act} {o og : Oper} {g : Nat} {t : Tmp} {u : Bool}
end
end Go.Proofs.YthmbleephognnaaW.PrintLast
