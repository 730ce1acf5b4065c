/- A part of the proof that the laws of this seat hold for every input; no conditions of its own. -/
import Derived.Test.YtcolcoapgodfcaaVU
import Derived.Test.YtcolcoapgodfcaaChecked
open Go Vam Vam.Pg Go.Proofs
set_option linter.unusedVariables false
namespace Go.Proofs.Ytcolcoapgodfcaa
noncomputable abbrev P := Try.prog
def noG : Nat → Option AV := fun _ => none
/-! What the functions are, plainly. -/
def lb (x i : Int) : Int := icv .u8 (shr .u64 x (imul .i64 8 i))
def lb8 (x : Int) : List Int := [lb x 0, lb x 1, lb x 2, lb x 3, lb x 4, lb x 5, lb x 6, lb x 7]
def usB (x : Int) : Bool := sel (ilt x 4) false (bno (ile 10 x))
def usI (x : Int) : Int := sel (usB x) (isub .i64 x 4) 0
def adr (x : Int) : Bool := sel (usB x) true (sel (ile 1 x) (ile x 3) false)
def isz (a b c r : Int) (d : ByteArray) : Bool := ieq a 0 && (ieq b 0 && (ieq c 0 && (ieq r 0 && seq d ⟨#[]⟩)))
def may (a b c r : Int) (d : ByteArray) : Bool := sel (isz a b c r d) false (sel (adr a) (sel (adr b) (sel (ile 1 c) (sel (ile c 6) (ile (ssz d) 16384) false) false) false) false)
def encS (a b c r : Int) (d : ByteArray) : ByteArray := sel (may a b c r d) (sapp (sapp (strOfNums [icv .u8 a, icv .u8 b, icv .u8 c]) (strOfNums (lb8 r))) d) ⟨#[]⟩
def encE (a b c r : Int) (d : ByteArray) : Int := sel (may a b c r d) 0 5
def rAt (s : ByteArray) : Nat → Int
  | 0 => 0
  | n + 1 => ior .u64 (rAt s n) (shl .u64 (icv .u64 (bt s (n + 3 : Nat))) (imul .i64 8 (isub .i64 (n + 3 : Nat) 3)))
def dOk (s : ByteArray) : Bool := sel (ilt (ssz s) 11) false (may (icv .i64 (bt s 0)) (icv .i64 (bt s 1)) (icv .i64 (bt s 2)) (rAt s 8) (scut s 11 s.size))
def dA (s : ByteArray) : Int := sel (dOk s) (icv .i64 (bt s 0)) 0
def dB (s : ByteArray) : Int := sel (dOk s) (icv .i64 (bt s 1)) 0
def dC (s : ByteArray) : Int := sel (dOk s) (icv .i64 (bt s 2)) 0
def dR (s : ByteArray) : Int := sel (dOk s) (rAt s 8) 0
def dD (s : ByteArray) : ByteArray := sel (dOk s) (scut s 11 s.size) ⟨#[]⟩
def dE (s : ByteArray) : Int := sel (dOk s) 0 5
abbrev frv (a b c r : Int) (d : ByteArray) : AV := .agg [.v (.int .i64 a), .v (.int .i64 b), .v (.int .i64 c), .v (.int .u64 r), .v (.string d)]
def Specs (f : Nat) (xs : List AV) (H : Hp) : Option (SV × Hp) :=
  match f, xs with
  | 20, [.one (.v (.int .u64 x)), .one (.v (.int .i64 n))] => some (.av (vs (strOfNums (lb8 x))), [])
  | 16, [.one (.v (.int .u64 x))] => some (.av (vs (strOfNums (lb8 x))), [])
  | 17, [.one (.v (.int .u64 x))] => some (.av (vs (strOfNums (lb8 x))), [])
  | 13, [.one (.v (.int .i64 x))] => some (.tup [vi .i64 (usI x), vb (usB x)], [])
  | 18, [.one (.v (.int .i64 x))] => some (.av (vb (adr x)), [])
  | 19, [.one (.v (.int .i64 x))] => some (.av (vb (adr x)), [])
  | 14, [.agg [.v (.int .i64 a), .v (.int .i64 b), .v (.int .i64 c), .v (.int .u64 r), .v (.string d)]] => some (.av (vb (may a b c r d)), [])
  | 15, [.agg [.v (.int .i64 a), .v (.int .i64 b), .v (.int .i64 c), .v (.int .u64 r), .v (.string d)]] => some (.av (vb (may a b c r d)), [])
  | 9, [.agg [.v (.int .i64 a), .v (.int .i64 b), .v (.int .i64 c), .v (.int .u64 r), .v (.string d)]] => some (.tup [vs (encS a b c r d), vi .i64 (encE a b c r d)], [])
  | 10, [.agg [.v (.int .i64 a), .v (.int .i64 b), .v (.int .i64 c), .v (.int .u64 r), .v (.string d)]] => some (.tup [vs (encS a b c r d), vi .i64 (encE a b c r d)], [])
  | 11, [.one (.v (.string s))] => some (.tup [frv (dA s) (dB s) (dC s) (dR s) (dD s), vi .i64 (dE s)], [])
  | 12, [.one (.v (.string s))] => some (.tup [frv (dA s) (dB s) (dC s) (dR s) (dD s), vi .i64 (dE s)], [])
  | 8, [] => some (.av (vb true), [])
  | _, _ => none
end Go.Proofs.Ytcolcoapgodfcaa
