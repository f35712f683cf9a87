/-
  What the package-level variables hold that the rows list, as pure values. Conditions: none; a library text, written by a program of this repo.
-/
import Derived.Test.YtpafmpcecgpfbaaPvA
set_option linter.all false
namespace Go.Pv

def gv (g : Nat) : Option (List PV) := none

end Go.Pv
