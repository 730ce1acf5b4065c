/- A part of the proof that the laws of this seat hold for every input; no conditions of its own. -/
import Derived.Test.YtjpnpdidgaeegaaVZ
import Derived.Test.YtjpnpdidgaeegaaChecked
open Go Vam Vam.Pg Go.Proofs
set_option linter.unusedVariables false
namespace Go.Proofs.Ytjpnpdidgaeegaa
noncomputable abbrev P := Try.prog
def noG : Nat → Option AV := fun _ => none
theorem mixed : P.follows .mixedOrders = true := Checked.mixed Try.checked
end Go.Proofs.Ytjpnpdidgaeegaa
