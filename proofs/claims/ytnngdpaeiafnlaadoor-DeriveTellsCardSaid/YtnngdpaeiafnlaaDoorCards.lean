/-
  DERIVED. GIVEN WITH THE SEED: THE CARDS: each row of YtnngdpaeiafnlaaDoorRows.lean that lists a variable, with what it lists TIED to the program's text (the seventh form; the later family's looks); each row that meets fmt, with fmt's text TOLD by the authors' own Lean function (tested against real Go, not proved from fmt's source: count such statements apart). THE CARD IS WHAT COUNTS. Prove the row's statement (the work); the ties are given (YtnngdpaeiafnlaaDoorTie.lean); close each card by the builder's one call (the guide's Derived/Test/ToyasCard.lean, 'card_holds'). Laid BY PROGRAM, IN A SANDBOX (cutbox-door.mjs). By AI agents, Wed Nov 11 2026. No macro, syntax, notation, axiom, sorry.
-/
import Derived.Test.YtnngdpaeiafnlaaDoorRows
import GoSem.ClaimSeven
namespace Go.Proofs.YtnngdpaeiafnlaaDoor
namespace Rows

/-- THE TIED CARD OF 'billetlaw07.DeriveTells'. -/
def deriveTellsCard : Claim7 := { stood := { row := deriveTellsRow, standIns := [], harness := (true, "69b863f9281f7484f0888d19628124832e40c528266a720a8642b1d9e1f90fe1"), looks := false }, kinds := [], alts := [], laidByText := true, laidKinds := [.data, .data], laidTests := true, laidLooks := .later }
def DeriveTellsCardSaid : Prop := Claim7.holds Tryd.pinned (.plain (OpenSpec.ofChange deriveTellsSpec)) deriveTellsCard

/-- THE TIED CARD OF 'billetlaw07.DeriveApart'. -/
def deriveApartCard : Claim7 := { stood := { row := deriveApartRow, standIns := [], harness := (true, "69b863f9281f7484f0888d19628124832e40c528266a720a8642b1d9e1f90fe1"), looks := false }, kinds := [], alts := [], laidByText := true, laidKinds := [.data, .data], laidTests := true, laidLooks := .later }
def DeriveApartCardSaid : Prop := Claim7.holds Tryd.pinned (.plain (OpenSpec.ofChange deriveApartSpec)) deriveApartCard

/-- THE TIED CARD OF 'billetlaw07.DeriveNonces'. -/
def deriveNoncesCard : Claim7 := { stood := { row := deriveNoncesRow, standIns := [], harness := (true, "69b863f9281f7484f0888d19628124832e40c528266a720a8642b1d9e1f90fe1"), looks := false }, kinds := [], alts := [], laidByText := true, laidKinds := [.data, .data], laidTests := true, laidLooks := .later }
def DeriveNoncesCardSaid : Prop := Claim7.holds Tryd.pinned (.plain (OpenSpec.ofChange deriveNoncesSpec)) deriveNoncesCard

/-- THE TIED CARD OF 'billetlaw07.DeriveJoins'. -/
def deriveJoinsCard : Claim7 := { stood := { row := deriveJoinsRow, standIns := [], harness := (true, "69b863f9281f7484f0888d19628124832e40c528266a720a8642b1d9e1f90fe1"), looks := false }, kinds := [], alts := [], laidByText := true, laidKinds := [.data, .data], laidTests := true, laidLooks := .later }
def DeriveJoinsCardSaid : Prop := Claim7.holds Tryd.pinned (.plain (OpenSpec.ofChange deriveJoinsSpec)) deriveJoinsCard

/-- THE SECOND FORM's CARD OF 'billetlaw07.DeriveTells'. -/
def deriveTellsUptoCard : Claim7 := { stood := { row := deriveTellsUptoRow, standIns := [], harness := (true, "69b863f9281f7484f0888d19628124832e40c528266a720a8642b1d9e1f90fe1"), looks := false }, kinds := [], alts := [], laidByText := true, laidKinds := [.data, .data], laidTests := true, laidLooks := .later }
def DeriveTellsUptoCardSaid : Prop := Claim7.holds Tryd.pinned (.plain (OpenSpec.upto deriveTellsSpec)) deriveTellsUptoCard

/-- THE SECOND FORM's CARD OF 'billetlaw07.DeriveApart'. -/
def deriveApartUptoCard : Claim7 := { stood := { row := deriveApartUptoRow, standIns := [], harness := (true, "69b863f9281f7484f0888d19628124832e40c528266a720a8642b1d9e1f90fe1"), looks := false }, kinds := [], alts := [], laidByText := true, laidKinds := [.data, .data], laidTests := true, laidLooks := .later }
def DeriveApartUptoCardSaid : Prop := Claim7.holds Tryd.pinned (.plain (OpenSpec.upto deriveApartSpec)) deriveApartUptoCard

/-- THE SECOND FORM's CARD OF 'billetlaw07.DeriveNonces'. -/
def deriveNoncesUptoCard : Claim7 := { stood := { row := deriveNoncesUptoRow, standIns := [], harness := (true, "69b863f9281f7484f0888d19628124832e40c528266a720a8642b1d9e1f90fe1"), looks := false }, kinds := [], alts := [], laidByText := true, laidKinds := [.data, .data], laidTests := true, laidLooks := .later }
def DeriveNoncesUptoCardSaid : Prop := Claim7.holds Tryd.pinned (.plain (OpenSpec.upto deriveNoncesSpec)) deriveNoncesUptoCard

/-- THE SECOND FORM's CARD OF 'billetlaw07.DeriveJoins'. -/
def deriveJoinsUptoCard : Claim7 := { stood := { row := deriveJoinsUptoRow, standIns := [], harness := (true, "69b863f9281f7484f0888d19628124832e40c528266a720a8642b1d9e1f90fe1"), looks := false }, kinds := [], alts := [], laidByText := true, laidKinds := [.data, .data], laidTests := true, laidLooks := .later }
def DeriveJoinsUptoCardSaid : Prop := Claim7.holds Tryd.pinned (.plain (OpenSpec.upto deriveJoinsSpec)) deriveJoinsUptoCard
end Rows
end Go.Proofs.YtnngdpaeiafnlaaDoor
