/- A part of the proof that the laws of this seat hold for every input; no conditions of its own. -/
import Derived.Test.YtcolcoapgodfcaaFS
open Go Vam Vam.Pg Go.Proofs
set_option linter.unusedVariables false
namespace Go.Proofs.Ytcolcoapgodfcaa
/-! The loops' states. -/
def d20 (x i : Int) (l : List Int) : St := ⟨[(0, .av (vi .u64 x)), (4, .av (vs ⟨#[]⟩)), (5, .av (.one (.own 8 0 0 8 1))), (10, .av (vi .i64 8)), (11, .av (vi .i64 i))], [(8, .row 5 (.int .u8) l)]⟩
def d17 (x i : Int) (l : List Int) : St := ⟨[(0, .av (vi .u64 x)), (2, .av (vs ⟨#[]⟩)), (3, .av (.one (.ptr 3 0 0 0 0))), (4, .av (vi .i64 i))], [(3, .cells 51 [.dat (.arr 8 (.int .u8)) l])]⟩
def zc : Blk := .cells 24 [.v (.int .i64 0), .v (.int .i64 0), .v (.int .i64 0), .v (.int .u64 0), .v (.string ⟨#[]⟩)]
def d11 (s d : ByteArray) (i acc a b c : Int) : St := ⟨[(0, .av (vs s)), (2, .av (.one (.ptr 2 0 0 0 0))), (3, .av (vi .i64 0)), (4, .av (.one (.ptr 4 0 0 0 0))), (5, .av (vi .i64 i))], [(2, zc), (4, .cells 24 [.v (.int .i64 a), .v (.int .i64 b), .v (.int .i64 c), .v (.int .u64 acc), .v (.string d)])]⟩
def zc31 : Blk := .cells 31 [.v (.int .i64 0), .v (.int .i64 0), .v (.int .i64 0), .v (.int .u64 0), .v (.string ⟨#[]⟩)]
def d12 (s d : ByteArray) (i acc a b c : Int) : St := ⟨[(0, .av (vs s)), (2, .av (.one (.ptr 2 0 0 0 0))), (3, .av (vi .i64 0)), (4, .av (.one (.ptr 4 0 0 0 0))), (5, .av (vi .i64 i))], [(2, zc31), (4, .cells 31 [.v (.int .i64 a), .v (.int .i64 b), .v (.int .i64 c), .v (.int .u64 acc), .v (.string d)])]⟩
def rB (s : ByteArray) : Nat → Int
  | 0 => 0
  | n + 1 => ior .u64 (shl .u64 (rB s n) 8) (icv .u64 (bt s (10 - n : Int)))
def Loops (n : Nat) (σ : St) : Option (Ex × St) :=
  match tmGet σ.tm 0 with
  | some (.av (.one (.v (.int .u64 x)))) => match hg σ.hp 8 with
    | some _ => some (.exit 0, d20 x 8 (lb8 x))
    | none => some (.exit 0, d17 x 8 (lb8 x))
  | some (.av (.one (.v (.string s)))) => match hg σ.hp 2 with
    | some (.cells 24 _) => some (.exit 0, d11 s (scut s 11 s.size) 11 (rAt s 8) (icv .i64 (bt s 0)) (icv .i64 (bt s 1)) (icv .i64 (bt s 2)))
    | _ => some (.exit 0, d12 s (scut s 11 s.size) (-1) (rB s 8) (icv .i64 (bt s 0)) (icv .i64 (bt s 1)) (icv .i64 (bt s 2)))
  | _ => none
end Go.Proofs.Ytcolcoapgodfcaa
