-- words of the print, cut down by prune.py to what this seat's claims use
import Derived.Test.YthmbleephognnaaWN
namespace Go.Proofs.YthmbleephognnaaW.PrintWords
open Go.RowKit
namespace Kd
section
variable {α : Type} {d : Kd α} {W : World} {g n : Nat} {S ok : Nat → Prop} {A : Option Addr} {ad : Addr} {xs : List α}
end
end Kd
end Go.Proofs.YthmbleephognnaaW.PrintWords
