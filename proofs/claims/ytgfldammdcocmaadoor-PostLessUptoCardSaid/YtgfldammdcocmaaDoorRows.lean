/-
  NARROWER THAN 'FOR EVERY INPUT', by the rows' own cells (each row's printed sentence says how): PostExact: laid · PostOrder: laid · PostLess: laid.
  DERIVED. THE GIVEN ROWS OF THIS SEAT. 3 by the template 'for every input the law returns true; each argument reads behind the call as it read before'; 0 by the template 'total and deterministic' (their statements: YtgfldammdcocmaaDoorTotals.lean).
  GIVEN WITH THE SEED: the statements are not yours to turn. If you find one false, say at which input.
  Laid BY PROGRAM, IN A SANDBOX (cutbox-rows.mjs): the forced cells as the released guide's own fill.sh prints them over the translation 24d946260d86ab29… (all of the seat's roots in one cut). By AI agents, Wed Nov 11 2026. No macro, syntax, notation, axiom, sorry.
-/
import Derived.Test.YtgfldammdcocmaaDoorChecked
import GoSem.Claim
import GoSem.ClaimJoined
import GoSem.ClaimMapViews
import Derived.JoinedTies
import Derived.KernelRfl
namespace Go.Proofs.YtgfldammdcocmaaDoor
/- THE CELL 'sum', in the pinned program and in every row, IS THE sha256 OF THE DUMP (.gsa) THAT YtgfldammdcocmaaDoorProg.lean LOADS. Nothing in Lean hashes anything: it is a label: what it is worth is what the hold of that sum in a sandbox is worth. -/
noncomputable def Tryd.pinned : Pinned := { name := "ytgfldammdcocmaadoor", sum := "24d946260d86ab2929fc4e752860df2dc79af4ce5195100f4259eaf974468763", checked := Tryd.checked }
namespace Rows
def none {H : Type} : Left H := { results := [], args := [] }

/- WHAT THE LISTED PACKAGE-LEVEL VARIABLES READ AS WHEN THE CALL BEGINS. Each datum BY PROGRAM (the guide's laid-datum.mjs) off the statement by which the dump's own 'gosem.cut.vars' lays the variable. In a bare row this is a premise. The card (YtgfldammdcocmaaDoorCards.lean) ties it to the program's text. -/
def laid_larder_match_nothing {H : Type} : DataW H := .agg [.lit (.int .u64 0), .lit (.int .u64 0), .lit (.int .u64 0), .lit (.int .u64 0)]
def laid_larder_match_everything {H : Type} : DataW H := .agg [.lit (.int .u64 18446744073709551615), .lit (.int .u64 18446744073709551615), .lit (.int .u64 18446744073709551615), .lit (.int .u64 18446744073709551615)]

/-- 'larderlaw17.PostExact': WHATEVER THE INPUT: true; the input reads as it did. -/
def postExactSpec : ChangeSpec := { name := "postExact", fn := fun _ => fun
  | [d] => { results := [.lit (.bool true)], args := [d] }
  | _ => none }
def postExactRow : OpenClaim := { program := "ytgfldammdcocmaadoor", sum := "24d946260d86ab2929fc4e752860df2dc79af4ce5195100f4259eaf974468763", func := "larder/larderlaw17.PostExact", spec := "postExact", unfollowed := true, recurses := true, named := ["larder/match.nothing", "larder/match.everything"], plainKeys := false, apart := false, laid := [("larder/match.nothing", laid_larder_match_nothing), ("larder/match.everything", laid_larder_match_everything)] }
def PostExactSaid : Prop := postExactRow.holds Tryd.pinned (OpenSpec.ofChange postExactSpec)

/-- ITS FALSE NEIGHBOUR: 'it returns false'. Refute it at one input. -/
def postExactWrong : ChangeSpec := { name := "postExact", fn := fun _ => fun
  | [d] => { results := [.lit (.bool false)], args := [d] }
  | _ => none }
def PostExactWrongFalsely : Prop := postExactRow.holds Tryd.pinned (OpenSpec.ofChange postExactWrong)

/-- 'larderlaw17.PostOrder': WHATEVER THE INPUT: true; the input reads as it did. -/
def postOrderSpec : ChangeSpec := { name := "postOrder", fn := fun _ => fun
  | [d] => { results := [.lit (.bool true)], args := [d] }
  | _ => none }
def postOrderRow : OpenClaim := { program := "ytgfldammdcocmaadoor", sum := "24d946260d86ab2929fc4e752860df2dc79af4ce5195100f4259eaf974468763", func := "larder/larderlaw17.PostOrder", spec := "postOrder", unfollowed := true, recurses := true, named := ["larder/match.nothing", "larder/match.everything"], plainKeys := false, apart := false, laid := [("larder/match.nothing", laid_larder_match_nothing), ("larder/match.everything", laid_larder_match_everything)] }
def PostOrderSaid : Prop := postOrderRow.holds Tryd.pinned (OpenSpec.ofChange postOrderSpec)

/-- ITS FALSE NEIGHBOUR: 'it returns false'. Refute it at one input. -/
def postOrderWrong : ChangeSpec := { name := "postOrder", fn := fun _ => fun
  | [d] => { results := [.lit (.bool false)], args := [d] }
  | _ => none }
def PostOrderWrongFalsely : Prop := postOrderRow.holds Tryd.pinned (OpenSpec.ofChange postOrderWrong)

/-- 'larderlaw17.PostLess': WHATEVER THE INPUT: true; the input reads as it did. -/
def postLessSpec : ChangeSpec := { name := "postLess", fn := fun _ => fun
  | [d] => { results := [.lit (.bool true)], args := [d] }
  | _ => none }
def postLessRow : OpenClaim := { program := "ytgfldammdcocmaadoor", sum := "24d946260d86ab2929fc4e752860df2dc79af4ce5195100f4259eaf974468763", func := "larder/larderlaw17.PostLess", spec := "postLess", unfollowed := true, recurses := true, named := ["larder/match.nothing", "larder/match.everything"], plainKeys := false, apart := false, laid := [("larder/match.nothing", laid_larder_match_nothing), ("larder/match.everything", laid_larder_match_everything)] }
def PostLessSaid : Prop := postLessRow.holds Tryd.pinned (OpenSpec.ofChange postLessSpec)

/-- ITS FALSE NEIGHBOUR: 'it returns false'. Refute it at one input. -/
def postLessWrong : ChangeSpec := { name := "postLess", fn := fun _ => fun
  | [d] => { results := [.lit (.bool false)], args := [d] }
  | _ => none }
def PostLessWrongFalsely : Prop := postLessRow.holds Tryd.pinned (OpenSpec.ofChange postLessWrong)

/- THE SECOND FORM. 'bulk': how many values and letters a reading holds, each counted each time it is reached (what is shared counts as often as it is met; a slice's spare places count too). A statement '..UptoSaid' is the law's where the arguments, and the package variables that the reading takes, are together of bulk at most 1048576: NARROWER than '..Said'. Prove '..Said' where nothing that the law and all that it calls make is longer than what came in: it says more and counts as full. Else prove '..UptoSaid'. A law counts once. -/
mutual
def uptoBulk {H : Type} : DataW H → Nat
  | .lit (.string bytes) => bytes.length + 1
  | .lit _ => 1
  | .nil => 1
  | .ptr d => uptoBulk d + 1
  | .slice elems spare => uptoBulkAll elems + uptoBulkAll spare + 1
  | .agg parts => uptoBulkAll parts + 1
  | .iface _ d => uptoBulk d + 1
  | .map entries => uptoBulkEntries entries + 1
  | .held _ => 1
def uptoBulkAll {H : Type} : List (DataW H) → Nat
  | [] => 0
  | d :: r => uptoBulk d + uptoBulkAll r
def uptoBulkEntries {H : Type} : List (Lit × DataW H) → Nat
  | [] => 0
  | x :: r => uptoBulkEntry x + uptoBulkEntries r
def uptoBulkEntry {H : Type} : Lit × DataW H → Nat
  | (.string bytes, d) => bytes.length + uptoBulk d + 1
  | (_, d) => uptoBulk d + 1
 end
def uptoSmall : (H : Type) → List (DataW H) → Bool := fun _ ds => decide (uptoBulkAll ds ≤ 1048576)
def OpenSpec.upto (s : _root_.Go.ChangeSpec) : _root_.Go.OpenSpec := { _root_.Go.OpenSpec.ofChange s with cond := some uptoSmall }

/-- 'larderlaw17.PostExact', WHERE WHAT IT READS IS OF BULK AT MOST 1048576: true; the input reads as it did. -/
def postExactUptoRow : OpenClaim := { program := "ytgfldammdcocmaadoor", sum := "24d946260d86ab2929fc4e752860df2dc79af4ce5195100f4259eaf974468763", func := "larder/larderlaw17.PostExact", spec := "postExact", unfollowed := true, recurses := true, named := ["larder/match.nothing", "larder/match.everything"], plainKeys := false, apart := false, laid := [("larder/match.nothing", laid_larder_match_nothing), ("larder/match.everything", laid_larder_match_everything)], narrowed := true }
def PostExactUptoSaid : Prop := postExactUptoRow.holds Tryd.pinned (OpenSpec.upto postExactSpec)

/-- 'larderlaw17.PostOrder', WHERE WHAT IT READS IS OF BULK AT MOST 1048576: true; the input reads as it did. -/
def postOrderUptoRow : OpenClaim := { program := "ytgfldammdcocmaadoor", sum := "24d946260d86ab2929fc4e752860df2dc79af4ce5195100f4259eaf974468763", func := "larder/larderlaw17.PostOrder", spec := "postOrder", unfollowed := true, recurses := true, named := ["larder/match.nothing", "larder/match.everything"], plainKeys := false, apart := false, laid := [("larder/match.nothing", laid_larder_match_nothing), ("larder/match.everything", laid_larder_match_everything)], narrowed := true }
def PostOrderUptoSaid : Prop := postOrderUptoRow.holds Tryd.pinned (OpenSpec.upto postOrderSpec)

/-- 'larderlaw17.PostLess', WHERE WHAT IT READS IS OF BULK AT MOST 1048576: true; the input reads as it did. -/
def postLessUptoRow : OpenClaim := { program := "ytgfldammdcocmaadoor", sum := "24d946260d86ab2929fc4e752860df2dc79af4ce5195100f4259eaf974468763", func := "larder/larderlaw17.PostLess", spec := "postLess", unfollowed := true, recurses := true, named := ["larder/match.nothing", "larder/match.everything"], plainKeys := false, apart := false, laid := [("larder/match.nothing", laid_larder_match_nothing), ("larder/match.everything", laid_larder_match_everything)], narrowed := true }
def PostLessUptoSaid : Prop := postLessUptoRow.holds Tryd.pinned (OpenSpec.upto postLessSpec)

end Rows
end Go.Proofs.YtgfldammdcocmaaDoor
