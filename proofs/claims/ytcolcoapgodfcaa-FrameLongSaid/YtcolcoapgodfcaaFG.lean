/- A part of the proof that the laws of this seat hold for every input; no conditions of its own. -/
import Derived.Test.YtcolcoapgodfcaaFS
open Go Vam Vam.Pg Go.Proofs
set_option linter.unusedVariables false
namespace Go.Proofs.Ytcolcoapgodfcaa
/-! The long frame's loop. -/
def d7 (a b c m : Int) (N : Nat) (i : Int) (l : List Int) : St :=
  ⟨[(7, .av (vi .u8 m)), (8, .av (.one (.ptr 8 0 0 0 0))), (9, .av (.one (.own 42 0 0 N 1))), (10, .av (vi .i64 i))], [(8, .cells 24 [.v (.int .i64 a), .v (.int .i64 b), .v (.int .i64 c), .v (.int .u64 0), .v (.string ⟨#[]⟩)]), (42, .row 5 (.int .u8) l)]⟩
def Loops7 (n : Nat) (σ : St) : Option (Ex × St) :=
  match tmGet σ.tm 7, tmGet σ.tm 9, hg σ.hp 8 with
  | some (.av (.one (.v (.int .u8 m)))), some (.av (.one (.own 42 0 0 N 1))), some (.cells 24 (.v (.int .i64 a) :: .v (.int .i64 b) :: .v (.int .i64 c) :: _)) => some (.exit 0, d7 a b c m N (N : Int) (List.replicate N m))
  | _, _, _ => none
end Go.Proofs.Ytcolcoapgodfcaa
