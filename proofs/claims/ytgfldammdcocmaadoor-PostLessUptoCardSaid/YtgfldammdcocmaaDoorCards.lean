/-
  DERIVED. GIVEN WITH THE SEED: THE CARDS: each row of YtgfldammdcocmaaDoorRows.lean that lists a variable, with what it lists TIED to the program's text (the seventh form; the later family's looks); each row that meets fmt, with fmt's text TOLD by the authors' own Lean function (tested against real Go, not proved from fmt's source: count such statements apart). THE CARD IS WHAT COUNTS. Prove the row's statement (the work); the ties are given (YtgfldammdcocmaaDoorTie.lean); close each card by the builder's one call (the guide's Derived/Test/ToyasCard.lean, 'card_holds'). Laid BY PROGRAM, IN A SANDBOX (cutbox-door.mjs). By AI agents, Wed Nov 11 2026. No macro, syntax, notation, axiom, sorry.
-/
import Derived.Test.YtgfldammdcocmaaDoorRows
import GoSem.ClaimSeven
namespace Go.Proofs.YtgfldammdcocmaaDoor
namespace Rows

/-- THE TIED CARD OF 'larderlaw17.PostExact'. -/
def postExactCard : Claim7 := { stood := { row := postExactRow, standIns := [], harness := (true, "a8ad33914471ec14a18b3d9e1cec81e2c6a05e227bf76ebcc442a0a1e6ee298e"), looks := false }, kinds := [], alts := [], laidByText := true, laidKinds := [.data, .data], laidTests := true, laidLooks := .later }
def PostExactCardSaid : Prop := Claim7.holds Tryd.pinned (.plain (OpenSpec.ofChange postExactSpec)) postExactCard

/-- THE TIED CARD OF 'larderlaw17.PostOrder'. -/
def postOrderCard : Claim7 := { stood := { row := postOrderRow, standIns := [], harness := (true, "a8ad33914471ec14a18b3d9e1cec81e2c6a05e227bf76ebcc442a0a1e6ee298e"), looks := false }, kinds := [], alts := [], laidByText := true, laidKinds := [.data, .data], laidTests := true, laidLooks := .later }
def PostOrderCardSaid : Prop := Claim7.holds Tryd.pinned (.plain (OpenSpec.ofChange postOrderSpec)) postOrderCard

/-- THE TIED CARD OF 'larderlaw17.PostLess'. -/
def postLessCard : Claim7 := { stood := { row := postLessRow, standIns := [], harness := (true, "a8ad33914471ec14a18b3d9e1cec81e2c6a05e227bf76ebcc442a0a1e6ee298e"), looks := false }, kinds := [], alts := [], laidByText := true, laidKinds := [.data, .data], laidTests := true, laidLooks := .later }
def PostLessCardSaid : Prop := Claim7.holds Tryd.pinned (.plain (OpenSpec.ofChange postLessSpec)) postLessCard

/-- THE SECOND FORM's CARD OF 'larderlaw17.PostExact'. -/
def postExactUptoCard : Claim7 := { stood := { row := postExactUptoRow, standIns := [], harness := (true, "a8ad33914471ec14a18b3d9e1cec81e2c6a05e227bf76ebcc442a0a1e6ee298e"), looks := false }, kinds := [], alts := [], laidByText := true, laidKinds := [.data, .data], laidTests := true, laidLooks := .later }
def PostExactUptoCardSaid : Prop := Claim7.holds Tryd.pinned (.plain (OpenSpec.upto postExactSpec)) postExactUptoCard

/-- THE SECOND FORM's CARD OF 'larderlaw17.PostOrder'. -/
def postOrderUptoCard : Claim7 := { stood := { row := postOrderUptoRow, standIns := [], harness := (true, "a8ad33914471ec14a18b3d9e1cec81e2c6a05e227bf76ebcc442a0a1e6ee298e"), looks := false }, kinds := [], alts := [], laidByText := true, laidKinds := [.data, .data], laidTests := true, laidLooks := .later }
def PostOrderUptoCardSaid : Prop := Claim7.holds Tryd.pinned (.plain (OpenSpec.upto postOrderSpec)) postOrderUptoCard

/-- THE SECOND FORM's CARD OF 'larderlaw17.PostLess'. -/
def postLessUptoCard : Claim7 := { stood := { row := postLessUptoRow, standIns := [], harness := (true, "a8ad33914471ec14a18b3d9e1cec81e2c6a05e227bf76ebcc442a0a1e6ee298e"), looks := false }, kinds := [], alts := [], laidByText := true, laidKinds := [.data, .data], laidTests := true, laidLooks := .later }
def PostLessUptoCardSaid : Prop := Claim7.holds Tryd.pinned (.plain (OpenSpec.upto postLessSpec)) postLessUptoCard
end Rows
end Go.Proofs.YtgfldammdcocmaaDoor
