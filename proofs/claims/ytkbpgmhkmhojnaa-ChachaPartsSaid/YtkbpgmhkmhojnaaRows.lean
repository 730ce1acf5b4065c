/-
  No cell of these rows narrows 'for every input' (looked for: loops, veiled, ifaces, maps, wideKeys, modest, calm, conditions, laid).
  DERIVED. THE GIVEN ROWS OF THIS SEAT. 4 by the template 'for every input the law returns true; each argument reads behind the call as it read before'; 0 by the template 'total and deterministic' (their statements: YtkbpgmhkmhojnaaTotals.lean).
  GIVEN WITH THE SEED: the statements are not yours to turn. If you find one false, say at which input.
  Laid BY PROGRAM, IN A SANDBOX (cutbox-rows.mjs): the forced cells as the released guide's own fill.sh prints them over the translation a5be2af977ba130b… (all of the seat's roots in one cut). By AI agents, Wed Nov 11 2026. No macro, syntax, notation, axiom, sorry.
-/
import Derived.Test.YtkbpgmhkmhojnaaChecked
import GoSem.Claim
import GoSem.ClaimJoined
import GoSem.ClaimMapViews
import Derived.JoinedTies
import Derived.KernelRfl
namespace Go.Proofs.Ytkbpgmhkmhojnaa
/- THE CELL 'sum', in the pinned program and in every row, IS THE sha256 OF THE DUMP (.gsa) THAT YtkbpgmhkmhojnaaProg.lean LOADS. Nothing in Lean hashes anything: it is a label: what it is worth is what the hold of that sum in a sandbox is worth. -/
noncomputable def Try.pinned : Pinned := { name := "ytkbpgmhkmhojnaa", sum := "a5be2af977ba130b678644c61c2488d374c21838285c1ccb976a55b710e60191", checked := Try.checked }
namespace Rows
def none {H : Type} : Left H := { results := [], args := [] }

/-- 'billetlaw03.ChachaTells': WHATEVER THE INPUT: true; the input reads as it did. -/
def chachaTellsSpec : ChangeSpec := { name := "chachaTells", fn := fun _ => fun
  | [d] => { results := [.lit (.bool true)], args := [d] }
  | _ => none }
def chachaTellsRow : OpenClaim := { program := "ytkbpgmhkmhojnaa", sum := "a5be2af977ba130b678644c61c2488d374c21838285c1ccb976a55b710e60191", func := "billet/billetlaw03.ChachaTells", spec := "chachaTells", apart := false }
def ChachaTellsSaid : Prop := chachaTellsRow.holds Try.pinned (OpenSpec.ofChange chachaTellsSpec)

/-- ITS FALSE NEIGHBOUR: 'it returns false'. Refute it at one input. -/
def chachaTellsWrong : ChangeSpec := { name := "chachaTells", fn := fun _ => fun
  | [d] => { results := [.lit (.bool false)], args := [d] }
  | _ => none }
def ChachaTellsWrongFalsely : Prop := chachaTellsRow.holds Try.pinned (OpenSpec.ofChange chachaTellsWrong)

/-- 'billetlaw03.ChachaTwice': WHATEVER THE INPUT: true; the input reads as it did. -/
def chachaTwiceSpec : ChangeSpec := { name := "chachaTwice", fn := fun _ => fun
  | [d] => { results := [.lit (.bool true)], args := [d] }
  | _ => none }
def chachaTwiceRow : OpenClaim := { program := "ytkbpgmhkmhojnaa", sum := "a5be2af977ba130b678644c61c2488d374c21838285c1ccb976a55b710e60191", func := "billet/billetlaw03.ChachaTwice", spec := "chachaTwice", apart := false }
def ChachaTwiceSaid : Prop := chachaTwiceRow.holds Try.pinned (OpenSpec.ofChange chachaTwiceSpec)

/-- ITS FALSE NEIGHBOUR: 'it returns false'. Refute it at one input. -/
def chachaTwiceWrong : ChangeSpec := { name := "chachaTwice", fn := fun _ => fun
  | [d] => { results := [.lit (.bool false)], args := [d] }
  | _ => none }
def ChachaTwiceWrongFalsely : Prop := chachaTwiceRow.holds Try.pinned (OpenSpec.ofChange chachaTwiceWrong)

/-- 'billetlaw03.ChachaParts': WHATEVER THE INPUT: true; the input reads as it did. -/
def chachaPartsSpec : ChangeSpec := { name := "chachaParts", fn := fun _ => fun
  | [d] => { results := [.lit (.bool true)], args := [d] }
  | _ => none }
def chachaPartsRow : OpenClaim := { program := "ytkbpgmhkmhojnaa", sum := "a5be2af977ba130b678644c61c2488d374c21838285c1ccb976a55b710e60191", func := "billet/billetlaw03.ChachaParts", spec := "chachaParts", apart := false }
def ChachaPartsSaid : Prop := chachaPartsRow.holds Try.pinned (OpenSpec.ofChange chachaPartsSpec)

/-- ITS FALSE NEIGHBOUR: 'it returns false'. Refute it at one input. -/
def chachaPartsWrong : ChangeSpec := { name := "chachaParts", fn := fun _ => fun
  | [d] => { results := [.lit (.bool false)], args := [d] }
  | _ => none }
def ChachaPartsWrongFalsely : Prop := chachaPartsRow.holds Try.pinned (OpenSpec.ofChange chachaPartsWrong)

/-- 'billetlaw03.ChachaBlocks': WHATEVER THE INPUT: true; the input reads as it did. -/
def chachaBlocksSpec : ChangeSpec := { name := "chachaBlocks", fn := fun _ => fun
  | [d] => { results := [.lit (.bool true)], args := [d] }
  | _ => none }
def chachaBlocksRow : OpenClaim := { program := "ytkbpgmhkmhojnaa", sum := "a5be2af977ba130b678644c61c2488d374c21838285c1ccb976a55b710e60191", func := "billet/billetlaw03.ChachaBlocks", spec := "chachaBlocks", apart := false }
def ChachaBlocksSaid : Prop := chachaBlocksRow.holds Try.pinned (OpenSpec.ofChange chachaBlocksSpec)

/-- ITS FALSE NEIGHBOUR: 'it returns false'. Refute it at one input. -/
def chachaBlocksWrong : ChangeSpec := { name := "chachaBlocks", fn := fun _ => fun
  | [d] => { results := [.lit (.bool false)], args := [d] }
  | _ => none }
def ChachaBlocksWrongFalsely : Prop := chachaBlocksRow.holds Try.pinned (OpenSpec.ofChange chachaBlocksWrong)

/- THE SECOND FORM. 'bulk': how many values and letters a reading holds, each counted each time it is reached (what is shared counts as often as it is met; a slice's spare places count too). A statement '..UptoSaid' is the law's where the arguments, and the package variables that the reading takes, are together of bulk at most 1048576: NARROWER than '..Said'. Prove '..Said' where nothing that the law and all that it calls make is longer than what came in: it says more and counts as full. Else prove '..UptoSaid'. A law counts once. -/
mutual
def uptoBulk {H : Type} : DataW H → Nat
  | .lit (.string bytes) => bytes.length + 1
  | .lit _ => 1
  | .nil => 1
  | .ptr d => uptoBulk d + 1
  | .slice elems spare => uptoBulkAll elems + uptoBulkAll spare + 1
  | .agg parts => uptoBulkAll parts + 1
  | .iface _ d => uptoBulk d + 1
  | .map entries => uptoBulkEntries entries + 1
  | .held _ => 1
def uptoBulkAll {H : Type} : List (DataW H) → Nat
  | [] => 0
  | d :: r => uptoBulk d + uptoBulkAll r
def uptoBulkEntries {H : Type} : List (Lit × DataW H) → Nat
  | [] => 0
  | x :: r => uptoBulkEntry x + uptoBulkEntries r
def uptoBulkEntry {H : Type} : Lit × DataW H → Nat
  | (.string bytes, d) => bytes.length + uptoBulk d + 1
  | (_, d) => uptoBulk d + 1
 end
def uptoSmall : (H : Type) → List (DataW H) → Bool := fun _ ds => decide (uptoBulkAll ds ≤ 1048576)
def OpenSpec.upto (s : _root_.Go.ChangeSpec) : _root_.Go.OpenSpec := { _root_.Go.OpenSpec.ofChange s with cond := some uptoSmall }

/-- 'billetlaw03.ChachaTells', WHERE WHAT IT READS IS OF BULK AT MOST 1048576: true; the input reads as it did. -/
def chachaTellsUptoRow : OpenClaim := { program := "ytkbpgmhkmhojnaa", sum := "a5be2af977ba130b678644c61c2488d374c21838285c1ccb976a55b710e60191", func := "billet/billetlaw03.ChachaTells", spec := "chachaTells", apart := false, narrowed := true }
def ChachaTellsUptoSaid : Prop := chachaTellsUptoRow.holds Try.pinned (OpenSpec.upto chachaTellsSpec)

/-- 'billetlaw03.ChachaTwice', WHERE WHAT IT READS IS OF BULK AT MOST 1048576: true; the input reads as it did. -/
def chachaTwiceUptoRow : OpenClaim := { program := "ytkbpgmhkmhojnaa", sum := "a5be2af977ba130b678644c61c2488d374c21838285c1ccb976a55b710e60191", func := "billet/billetlaw03.ChachaTwice", spec := "chachaTwice", apart := false, narrowed := true }
def ChachaTwiceUptoSaid : Prop := chachaTwiceUptoRow.holds Try.pinned (OpenSpec.upto chachaTwiceSpec)

/-- 'billetlaw03.ChachaParts', WHERE WHAT IT READS IS OF BULK AT MOST 1048576: true; the input reads as it did. -/
def chachaPartsUptoRow : OpenClaim := { program := "ytkbpgmhkmhojnaa", sum := "a5be2af977ba130b678644c61c2488d374c21838285c1ccb976a55b710e60191", func := "billet/billetlaw03.ChachaParts", spec := "chachaParts", apart := false, narrowed := true }
def ChachaPartsUptoSaid : Prop := chachaPartsUptoRow.holds Try.pinned (OpenSpec.upto chachaPartsSpec)

/-- 'billetlaw03.ChachaBlocks', WHERE WHAT IT READS IS OF BULK AT MOST 1048576: true; the input reads as it did. -/
def chachaBlocksUptoRow : OpenClaim := { program := "ytkbpgmhkmhojnaa", sum := "a5be2af977ba130b678644c61c2488d374c21838285c1ccb976a55b710e60191", func := "billet/billetlaw03.ChachaBlocks", spec := "chachaBlocks", apart := false, narrowed := true }
def ChachaBlocksUptoSaid : Prop := chachaBlocksUptoRow.holds Try.pinned (OpenSpec.upto chachaBlocksSpec)

end Rows
end Go.Proofs.Ytkbpgmhkmhojnaa
