/-
  No cell of these rows narrows 'for every input' (looked for: loops, veiled, ifaces, maps, wideKeys, modest, calm, conditions, laid).
  DERIVED. THE GIVEN ROWS OF THIS SEAT. 4 by the template 'for every input the law returns true; each argument reads behind the call as it read before'; 0 by the template 'total and deterministic' (their statements: YtjpnpdidgaeegaaTotals.lean).
  GIVEN WITH THE SEED: the statements are not yours to turn. If you find one false, say at which input.
  Laid BY PROGRAM, IN A SANDBOX (cutbox-rows.mjs): the forced cells as the released guide's own fill.sh prints them over the translation 7323305b1e1361dc… (all of the seat's roots in one cut). By AI agents, Wed Nov 11 2026. No macro, syntax, notation, axiom, sorry.
-/
import Derived.Test.YtjpnpdidgaeegaaChecked
import GoSem.Claim
import GoSem.ClaimJoined
import GoSem.ClaimMapViews
import Derived.JoinedTies
import Derived.KernelRfl
namespace Go.Proofs.Ytjpnpdidgaeegaa
/- THE CELL 'sum', in the pinned program and in every row, IS THE sha256 OF THE DUMP (.gsa) THAT YtjpnpdidgaeegaaProg.lean LOADS. Nothing in Lean hashes anything: it is a label: what it is worth is what the hold of that sum in a sandbox is worth. -/
noncomputable def Try.pinned : Pinned := { name := "ytjpnpdidgaeegaa", sum := "7323305b1e1361dc9382eed145c5fcf11398f4e3dece752356438afdf3b43204", checked := Try.checked }
namespace Rows
def none {H : Type} : Left H := { results := [], args := [] }

/-- 'billetlaw11.OrderBack': WHATEVER THE INPUT: true; the input reads as it did. -/
def orderBackSpec : ChangeSpec := { name := "orderBack", fn := fun _ => fun
  | [d1, d2] => { results := [.lit (.bool true)], args := [d1, d2] }
  | _ => none }
def orderBackRow : OpenClaim := { program := "ytjpnpdidgaeegaa", sum := "7323305b1e1361dc9382eed145c5fcf11398f4e3dece752356438afdf3b43204", func := "billet/billetlaw11.OrderBack", spec := "orderBack", apart := false }
def OrderBackSaid : Prop := orderBackRow.holds Try.pinned (OpenSpec.ofChange orderBackSpec)

/-- ITS FALSE NEIGHBOUR: 'it returns false'. Refute it at one input. -/
def orderBackWrong : ChangeSpec := { name := "orderBack", fn := fun _ => fun
  | [d1, d2] => { results := [.lit (.bool false)], args := [d1, d2] }
  | _ => none }
def OrderBackWrongFalsely : Prop := orderBackRow.holds Try.pinned (OpenSpec.ofChange orderBackWrong)

/-- 'billetlaw11.OrderEach': WHATEVER THE INPUT: true; the input reads as it did. -/
def orderEachSpec : ChangeSpec := { name := "orderEach", fn := fun _ => fun
  | [d1, d2] => { results := [.lit (.bool true)], args := [d1, d2] }
  | _ => none }
def orderEachRow : OpenClaim := { program := "ytjpnpdidgaeegaa", sum := "7323305b1e1361dc9382eed145c5fcf11398f4e3dece752356438afdf3b43204", func := "billet/billetlaw11.OrderEach", spec := "orderEach", apart := false }
def OrderEachSaid : Prop := orderEachRow.holds Try.pinned (OpenSpec.ofChange orderEachSpec)

/-- ITS FALSE NEIGHBOUR: 'it returns false'. Refute it at one input. -/
def orderEachWrong : ChangeSpec := { name := "orderEach", fn := fun _ => fun
  | [d1, d2] => { results := [.lit (.bool false)], args := [d1, d2] }
  | _ => none }
def OrderEachWrongFalsely : Prop := orderEachRow.holds Try.pinned (OpenSpec.ofChange orderEachWrong)

/-- 'billetlaw11.OrderTells': WHATEVER THE INPUT: true; the input reads as it did. -/
def orderTellsSpec : ChangeSpec := { name := "orderTells", fn := fun _ => fun
  | [d] => { results := [.lit (.bool true)], args := [d] }
  | _ => none }
def orderTellsRow : OpenClaim := { program := "ytjpnpdidgaeegaa", sum := "7323305b1e1361dc9382eed145c5fcf11398f4e3dece752356438afdf3b43204", func := "billet/billetlaw11.OrderTells", spec := "orderTells", apart := false }
def OrderTellsSaid : Prop := orderTellsRow.holds Try.pinned (OpenSpec.ofChange orderTellsSpec)

/-- ITS FALSE NEIGHBOUR: 'it returns false'. Refute it at one input. -/
def orderTellsWrong : ChangeSpec := { name := "orderTells", fn := fun _ => fun
  | [d] => { results := [.lit (.bool false)], args := [d] }
  | _ => none }
def OrderTellsWrongFalsely : Prop := orderTellsRow.holds Try.pinned (OpenSpec.ofChange orderTellsWrong)

/-- 'billetlaw11.OrderShuffles': WHATEVER THE INPUT: true; the input reads as it did. -/
def orderShufflesSpec : ChangeSpec := { name := "orderShuffles", fn := fun _ => fun
  | [d1, d2] => { results := [.lit (.bool true)], args := [d1, d2] }
  | _ => none }
def orderShufflesRow : OpenClaim := { program := "ytjpnpdidgaeegaa", sum := "7323305b1e1361dc9382eed145c5fcf11398f4e3dece752356438afdf3b43204", func := "billet/billetlaw11.OrderShuffles", spec := "orderShuffles", apart := false }
def OrderShufflesSaid : Prop := orderShufflesRow.holds Try.pinned (OpenSpec.ofChange orderShufflesSpec)

/-- ITS FALSE NEIGHBOUR: 'it returns false'. Refute it at one input. -/
def orderShufflesWrong : ChangeSpec := { name := "orderShuffles", fn := fun _ => fun
  | [d1, d2] => { results := [.lit (.bool false)], args := [d1, d2] }
  | _ => none }
def OrderShufflesWrongFalsely : Prop := orderShufflesRow.holds Try.pinned (OpenSpec.ofChange orderShufflesWrong)

/- THE SECOND FORM. 'bulk': how many values and letters a reading holds, each counted each time it is reached (what is shared counts as often as it is met; a slice's spare places count too). A statement '..UptoSaid' is the law's where the arguments, and the package variables that the reading takes, are together of bulk at most 1048576: NARROWER than '..Said'. Prove '..Said' where nothing that the law and all that it calls make is longer than what came in: it says more and counts as full. Else prove '..UptoSaid'. A law counts once. -/
mutual
def uptoBulk {H : Type} : DataW H → Nat
  | .lit (.string bytes) => bytes.length + 1
  | .lit _ => 1
  | .nil => 1
  | .ptr d => uptoBulk d + 1
  | .slice elems spare => uptoBulkAll elems + uptoBulkAll spare + 1
  | .agg parts => uptoBulkAll parts + 1
  | .iface _ d => uptoBulk d + 1
  | .map entries => uptoBulkEntries entries + 1
  | .held _ => 1
def uptoBulkAll {H : Type} : List (DataW H) → Nat
  | [] => 0
  | d :: r => uptoBulk d + uptoBulkAll r
def uptoBulkEntries {H : Type} : List (Lit × DataW H) → Nat
  | [] => 0
  | x :: r => uptoBulkEntry x + uptoBulkEntries r
def uptoBulkEntry {H : Type} : Lit × DataW H → Nat
  | (.string bytes, d) => bytes.length + uptoBulk d + 1
  | (_, d) => uptoBulk d + 1
 end
def uptoSmall : (H : Type) → List (DataW H) → Bool := fun _ ds => decide (uptoBulkAll ds ≤ 1048576)
def OpenSpec.upto (s : _root_.Go.ChangeSpec) : _root_.Go.OpenSpec := { _root_.Go.OpenSpec.ofChange s with cond := some uptoSmall }

/-- 'billetlaw11.OrderBack', WHERE WHAT IT READS IS OF BULK AT MOST 1048576: true; the input reads as it did. -/
def orderBackUptoRow : OpenClaim := { program := "ytjpnpdidgaeegaa", sum := "7323305b1e1361dc9382eed145c5fcf11398f4e3dece752356438afdf3b43204", func := "billet/billetlaw11.OrderBack", spec := "orderBack", apart := false, narrowed := true }
def OrderBackUptoSaid : Prop := orderBackUptoRow.holds Try.pinned (OpenSpec.upto orderBackSpec)

/-- 'billetlaw11.OrderEach', WHERE WHAT IT READS IS OF BULK AT MOST 1048576: true; the input reads as it did. -/
def orderEachUptoRow : OpenClaim := { program := "ytjpnpdidgaeegaa", sum := "7323305b1e1361dc9382eed145c5fcf11398f4e3dece752356438afdf3b43204", func := "billet/billetlaw11.OrderEach", spec := "orderEach", apart := false, narrowed := true }
def OrderEachUptoSaid : Prop := orderEachUptoRow.holds Try.pinned (OpenSpec.upto orderEachSpec)

/-- 'billetlaw11.OrderTells', WHERE WHAT IT READS IS OF BULK AT MOST 1048576: true; the input reads as it did. -/
def orderTellsUptoRow : OpenClaim := { program := "ytjpnpdidgaeegaa", sum := "7323305b1e1361dc9382eed145c5fcf11398f4e3dece752356438afdf3b43204", func := "billet/billetlaw11.OrderTells", spec := "orderTells", apart := false, narrowed := true }
def OrderTellsUptoSaid : Prop := orderTellsUptoRow.holds Try.pinned (OpenSpec.upto orderTellsSpec)

/-- 'billetlaw11.OrderShuffles', WHERE WHAT IT READS IS OF BULK AT MOST 1048576: true; the input reads as it did. -/
def orderShufflesUptoRow : OpenClaim := { program := "ytjpnpdidgaeegaa", sum := "7323305b1e1361dc9382eed145c5fcf11398f4e3dece752356438afdf3b43204", func := "billet/billetlaw11.OrderShuffles", spec := "orderShuffles", apart := false, narrowed := true }
def OrderShufflesUptoSaid : Prop := orderShufflesUptoRow.holds Try.pinned (OpenSpec.upto orderShufflesSpec)

end Rows
end Go.Proofs.Ytjpnpdidgaeegaa
