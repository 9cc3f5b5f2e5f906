/-
  NARROWER THAN 'FOR EVERY INPUT', by the rows' own cells (each row's printed sentence says how): ClaimTruths: laid · ClaimBoxes: laid · ClaimBacks: laid · ClaimWrongs: laid · ClaimTrue: laid · ClaimEach: laid · ClaimCould: laid · ClaimFalse: laid · ClaimMore: laid · ClaimKnown: laid.
  DERIVED. THE GIVEN ROWS OF THIS SEAT. 10 by the template 'for every input the law returns true; each argument reads behind the call as it read before'; 0 by the template 'total and deterministic' (their statements: YthbekoofiienjaaDoorTotals.lean).
  GIVEN WITH THE SEED: the statements are not yours to turn. If you find one false, say at which input.
  Laid BY PROGRAM, IN A SANDBOX (cutbox-rows.mjs): the forced cells as the released guide's own fill.sh prints them over the translation 839499ec95705368… (all of the seat's roots in one cut). By AI agents, Wed Nov 11 2026. No macro, syntax, notation, axiom, sorry.
-/
import Derived.Test.YthbekoofiienjaaDoorChecked
import GoSem.Claim
import GoSem.ClaimJoined
import GoSem.ClaimMapViews
import Derived.JoinedTies
import Derived.KernelRfl
namespace Go.Proofs.YthbekoofiienjaaDoor
/- THE CELL 'sum', in the pinned program and in every row, IS THE sha256 OF THE DUMP (.gsa) THAT YthbekoofiienjaaDoorProg.lean LOADS. Nothing in Lean hashes anything: it is a label: what it is worth is what the hold of that sum in a sandbox is worth. -/
noncomputable def Tryd.pinned : Pinned := { name := "ythbekoofiienjaadoor", sum := "839499ec957053686a16b7776117ceb7c58f091572cfc70a5a1056a0807383b2", checked := Tryd.checked }
namespace Rows
def none {H : Type} : Left H := { results := [], args := [] }

/- WHAT THE LISTED PACKAGE-LEVEL VARIABLES READ AS WHEN THE CALL BEGINS. Each datum BY PROGRAM (the guide's laid-datum.mjs) off the statement by which the dump's own 'gosem.cut.vars' lays the variable. In a bare row this is a premise. The card (YthbekoofiienjaaDoorCards.lean) ties it to the program's text. -/
def laid_wishbook_claim_marks {H : Type} : DataW H := .iface "func table" (.agg [.iface "func" (.lit (.string [40, 119, 105, 115, 104, 98, 111, 111, 107, 47, 99, 108, 97, 105, 109, 46, 100, 101, 115, 107, 41, 46, 100, 97, 121])), .iface "func" (.lit (.string [40, 119, 105, 115, 104, 98, 111, 111, 107, 47, 99, 108, 97, 105, 109, 46, 100, 101, 115, 107, 41, 46, 119, 101, 105, 103, 104, 116])), .iface "func" (.lit (.string [40, 119, 105, 115, 104, 98, 111, 111, 107, 47, 99, 108, 97, 105, 109, 46, 100, 101, 115, 107, 41, 46, 115, 101, 97, 108]))])

/-- 'wishbooklaw09.ClaimTruths': WHATEVER THE INPUT: true; the input reads as it did. -/
def claimTruthsSpec : ChangeSpec := { name := "claimTruths", fn := fun _ => fun
  | [d1, d2, d3] => { results := [.lit (.bool true)], args := [d1, d2, d3] }
  | _ => none }
def claimTruthsRow : OpenClaim := { program := "ythbekoofiienjaadoor", sum := "839499ec957053686a16b7776117ceb7c58f091572cfc70a5a1056a0807383b2", func := "wishbook/wishbooklaw09.ClaimTruths", spec := "claimTruths", unfollowed := true, recurses := true, named := ["wishbook/claim.marks"], plainKeys := false, apart := false, laid := [("wishbook/claim.marks", laid_wishbook_claim_marks)] }
def ClaimTruthsSaid : Prop := claimTruthsRow.holds Tryd.pinned (OpenSpec.ofChange claimTruthsSpec)

/-- ITS FALSE NEIGHBOUR: 'it returns false'. Refute it at one input. -/
def claimTruthsWrong : ChangeSpec := { name := "claimTruths", fn := fun _ => fun
  | [d1, d2, d3] => { results := [.lit (.bool false)], args := [d1, d2, d3] }
  | _ => none }
def ClaimTruthsWrongFalsely : Prop := claimTruthsRow.holds Tryd.pinned (OpenSpec.ofChange claimTruthsWrong)

/-- 'wishbooklaw09.ClaimBoxes': WHATEVER THE INPUT: true; the input reads as it did. -/
def claimBoxesSpec : ChangeSpec := { name := "claimBoxes", fn := fun _ => fun
  | [d1, d2] => { results := [.lit (.bool true)], args := [d1, d2] }
  | _ => none }
def claimBoxesRow : OpenClaim := { program := "ythbekoofiienjaadoor", sum := "839499ec957053686a16b7776117ceb7c58f091572cfc70a5a1056a0807383b2", func := "wishbook/wishbooklaw09.ClaimBoxes", spec := "claimBoxes", unfollowed := true, recurses := true, named := ["wishbook/claim.marks"], plainKeys := false, apart := false, laid := [("wishbook/claim.marks", laid_wishbook_claim_marks)] }
def ClaimBoxesSaid : Prop := claimBoxesRow.holds Tryd.pinned (OpenSpec.ofChange claimBoxesSpec)

/-- ITS FALSE NEIGHBOUR: 'it returns false'. Refute it at one input. -/
def claimBoxesWrong : ChangeSpec := { name := "claimBoxes", fn := fun _ => fun
  | [d1, d2] => { results := [.lit (.bool false)], args := [d1, d2] }
  | _ => none }
def ClaimBoxesWrongFalsely : Prop := claimBoxesRow.holds Tryd.pinned (OpenSpec.ofChange claimBoxesWrong)

/-- 'wishbooklaw09.ClaimBacks': WHATEVER THE INPUT: true; the input reads as it did. -/
def claimBacksSpec : ChangeSpec := { name := "claimBacks", fn := fun _ => fun
  | [d] => { results := [.lit (.bool true)], args := [d] }
  | _ => none }
def claimBacksRow : OpenClaim := { program := "ythbekoofiienjaadoor", sum := "839499ec957053686a16b7776117ceb7c58f091572cfc70a5a1056a0807383b2", func := "wishbook/wishbooklaw09.ClaimBacks", spec := "claimBacks", unfollowed := true, recurses := true, named := ["wishbook/claim.marks"], plainKeys := false, apart := false, laid := [("wishbook/claim.marks", laid_wishbook_claim_marks)] }
def ClaimBacksSaid : Prop := claimBacksRow.holds Tryd.pinned (OpenSpec.ofChange claimBacksSpec)

/-- ITS FALSE NEIGHBOUR: 'it returns false'. Refute it at one input. -/
def claimBacksWrong : ChangeSpec := { name := "claimBacks", fn := fun _ => fun
  | [d] => { results := [.lit (.bool false)], args := [d] }
  | _ => none }
def ClaimBacksWrongFalsely : Prop := claimBacksRow.holds Tryd.pinned (OpenSpec.ofChange claimBacksWrong)

/-- 'wishbooklaw09.ClaimWrongs': WHATEVER THE INPUT: true; the input reads as it did. -/
def claimWrongsSpec : ChangeSpec := { name := "claimWrongs", fn := fun _ => fun
  | [d] => { results := [.lit (.bool true)], args := [d] }
  | _ => none }
def claimWrongsRow : OpenClaim := { program := "ythbekoofiienjaadoor", sum := "839499ec957053686a16b7776117ceb7c58f091572cfc70a5a1056a0807383b2", func := "wishbook/wishbooklaw09.ClaimWrongs", spec := "claimWrongs", unfollowed := true, recurses := true, named := ["wishbook/claim.marks"], plainKeys := false, apart := false, laid := [("wishbook/claim.marks", laid_wishbook_claim_marks)] }
def ClaimWrongsSaid : Prop := claimWrongsRow.holds Tryd.pinned (OpenSpec.ofChange claimWrongsSpec)

/-- ITS FALSE NEIGHBOUR: 'it returns false'. Refute it at one input. -/
def claimWrongsWrong : ChangeSpec := { name := "claimWrongs", fn := fun _ => fun
  | [d] => { results := [.lit (.bool false)], args := [d] }
  | _ => none }
def ClaimWrongsWrongFalsely : Prop := claimWrongsRow.holds Tryd.pinned (OpenSpec.ofChange claimWrongsWrong)

/-- 'wishbooklaw09.ClaimTrue': WHATEVER THE INPUT: true; the input reads as it did. -/
def claimTrueSpec : ChangeSpec := { name := "claimTrue", fn := fun _ => fun
  | [d1, d2] => { results := [.lit (.bool true)], args := [d1, d2] }
  | _ => none }
def claimTrueRow : OpenClaim := { program := "ythbekoofiienjaadoor", sum := "839499ec957053686a16b7776117ceb7c58f091572cfc70a5a1056a0807383b2", func := "wishbook/wishbooklaw09.ClaimTrue", spec := "claimTrue", unfollowed := true, recurses := true, named := ["wishbook/claim.marks"], plainKeys := false, apart := false, laid := [("wishbook/claim.marks", laid_wishbook_claim_marks)] }
def ClaimTrueSaid : Prop := claimTrueRow.holds Tryd.pinned (OpenSpec.ofChange claimTrueSpec)

/-- ITS FALSE NEIGHBOUR: 'it returns false'. Refute it at one input. -/
def claimTrueWrong : ChangeSpec := { name := "claimTrue", fn := fun _ => fun
  | [d1, d2] => { results := [.lit (.bool false)], args := [d1, d2] }
  | _ => none }
def ClaimTrueWrongFalsely : Prop := claimTrueRow.holds Tryd.pinned (OpenSpec.ofChange claimTrueWrong)

/-- 'wishbooklaw09.ClaimEach': WHATEVER THE INPUT: true; the input reads as it did. -/
def claimEachSpec : ChangeSpec := { name := "claimEach", fn := fun _ => fun
  | [d1, d2] => { results := [.lit (.bool true)], args := [d1, d2] }
  | _ => none }
def claimEachRow : OpenClaim := { program := "ythbekoofiienjaadoor", sum := "839499ec957053686a16b7776117ceb7c58f091572cfc70a5a1056a0807383b2", func := "wishbook/wishbooklaw09.ClaimEach", spec := "claimEach", unfollowed := true, recurses := true, named := ["wishbook/claim.marks"], plainKeys := false, apart := false, laid := [("wishbook/claim.marks", laid_wishbook_claim_marks)] }
def ClaimEachSaid : Prop := claimEachRow.holds Tryd.pinned (OpenSpec.ofChange claimEachSpec)

/-- ITS FALSE NEIGHBOUR: 'it returns false'. Refute it at one input. -/
def claimEachWrong : ChangeSpec := { name := "claimEach", fn := fun _ => fun
  | [d1, d2] => { results := [.lit (.bool false)], args := [d1, d2] }
  | _ => none }
def ClaimEachWrongFalsely : Prop := claimEachRow.holds Tryd.pinned (OpenSpec.ofChange claimEachWrong)

/-- 'wishbooklaw09.ClaimCould': WHATEVER THE INPUT: true; the input reads as it did. -/
def claimCouldSpec : ChangeSpec := { name := "claimCould", fn := fun _ => fun
  | [d1, d2] => { results := [.lit (.bool true)], args := [d1, d2] }
  | _ => none }
def claimCouldRow : OpenClaim := { program := "ythbekoofiienjaadoor", sum := "839499ec957053686a16b7776117ceb7c58f091572cfc70a5a1056a0807383b2", func := "wishbook/wishbooklaw09.ClaimCould", spec := "claimCould", unfollowed := true, recurses := true, named := ["wishbook/claim.marks"], plainKeys := false, apart := false, laid := [("wishbook/claim.marks", laid_wishbook_claim_marks)] }
def ClaimCouldSaid : Prop := claimCouldRow.holds Tryd.pinned (OpenSpec.ofChange claimCouldSpec)

/-- ITS FALSE NEIGHBOUR: 'it returns false'. Refute it at one input. -/
def claimCouldWrong : ChangeSpec := { name := "claimCould", fn := fun _ => fun
  | [d1, d2] => { results := [.lit (.bool false)], args := [d1, d2] }
  | _ => none }
def ClaimCouldWrongFalsely : Prop := claimCouldRow.holds Tryd.pinned (OpenSpec.ofChange claimCouldWrong)

/-- 'wishbooklaw09.ClaimFalse': WHATEVER THE INPUT: true; the input reads as it did. -/
def claimFalseSpec : ChangeSpec := { name := "claimFalse", fn := fun _ => fun
  | [d1, d2] => { results := [.lit (.bool true)], args := [d1, d2] }
  | _ => none }
def claimFalseRow : OpenClaim := { program := "ythbekoofiienjaadoor", sum := "839499ec957053686a16b7776117ceb7c58f091572cfc70a5a1056a0807383b2", func := "wishbook/wishbooklaw09.ClaimFalse", spec := "claimFalse", unfollowed := true, recurses := true, named := ["wishbook/claim.marks"], plainKeys := false, apart := false, laid := [("wishbook/claim.marks", laid_wishbook_claim_marks)] }
def ClaimFalseSaid : Prop := claimFalseRow.holds Tryd.pinned (OpenSpec.ofChange claimFalseSpec)

/-- ITS FALSE NEIGHBOUR: 'it returns false'. Refute it at one input. -/
def claimFalseWrong : ChangeSpec := { name := "claimFalse", fn := fun _ => fun
  | [d1, d2] => { results := [.lit (.bool false)], args := [d1, d2] }
  | _ => none }
def ClaimFalseWrongFalsely : Prop := claimFalseRow.holds Tryd.pinned (OpenSpec.ofChange claimFalseWrong)

/-- 'wishbooklaw09.ClaimMore': WHATEVER THE INPUT: true; the input reads as it did. -/
def claimMoreSpec : ChangeSpec := { name := "claimMore", fn := fun _ => fun
  | [d1, d2, d3] => { results := [.lit (.bool true)], args := [d1, d2, d3] }
  | _ => none }
def claimMoreRow : OpenClaim := { program := "ythbekoofiienjaadoor", sum := "839499ec957053686a16b7776117ceb7c58f091572cfc70a5a1056a0807383b2", func := "wishbook/wishbooklaw09.ClaimMore", spec := "claimMore", unfollowed := true, recurses := true, named := ["wishbook/claim.marks"], plainKeys := false, apart := false, laid := [("wishbook/claim.marks", laid_wishbook_claim_marks)] }
def ClaimMoreSaid : Prop := claimMoreRow.holds Tryd.pinned (OpenSpec.ofChange claimMoreSpec)

/-- ITS FALSE NEIGHBOUR: 'it returns false'. Refute it at one input. -/
def claimMoreWrong : ChangeSpec := { name := "claimMore", fn := fun _ => fun
  | [d1, d2, d3] => { results := [.lit (.bool false)], args := [d1, d2, d3] }
  | _ => none }
def ClaimMoreWrongFalsely : Prop := claimMoreRow.holds Tryd.pinned (OpenSpec.ofChange claimMoreWrong)

/-- 'wishbooklaw09.ClaimKnown': WHATEVER THE INPUT: true; the input reads as it did. -/
def claimKnownSpec : ChangeSpec := { name := "claimKnown", fn := fun _ => fun
  | [] => { results := [.lit (.bool true)], args := [] }
  | _ => none }
def claimKnownRow : OpenClaim := { program := "ythbekoofiienjaadoor", sum := "839499ec957053686a16b7776117ceb7c58f091572cfc70a5a1056a0807383b2", func := "wishbook/wishbooklaw09.ClaimKnown", spec := "claimKnown", unfollowed := true, recurses := true, named := ["wishbook/claim.marks"], plainKeys := false, apart := false, laid := [("wishbook/claim.marks", laid_wishbook_claim_marks)] }
def ClaimKnownSaid : Prop := claimKnownRow.holds Tryd.pinned (OpenSpec.ofChange claimKnownSpec)

/-- ITS FALSE NEIGHBOUR: 'it returns false'. Refute it at one input. -/
def claimKnownWrong : ChangeSpec := { name := "claimKnown", fn := fun _ => fun
  | [] => { results := [.lit (.bool false)], args := [] }
  | _ => none }
def ClaimKnownWrongFalsely : Prop := claimKnownRow.holds Tryd.pinned (OpenSpec.ofChange claimKnownWrong)

/- THE SECOND FORM. 'bulk': how many values and letters a reading holds, each counted each time it is reached (what is shared counts as often as it is met; a slice's spare places count too). A statement '..UptoSaid' is the law's where the arguments, and the package variables that the reading takes, are together of bulk at most 1048576: NARROWER than '..Said'. Prove '..Said' where nothing that the law and all that it calls make is longer than what came in: it says more and counts as full. Else prove '..UptoSaid'. A law counts once. -/
mutual
def uptoBulk {H : Type} : DataW H → Nat
  | .lit (.string bytes) => bytes.length + 1
  | .lit _ => 1
  | .nil => 1
  | .ptr d => uptoBulk d + 1
  | .slice elems spare => uptoBulkAll elems + uptoBulkAll spare + 1
  | .agg parts => uptoBulkAll parts + 1
  | .iface _ d => uptoBulk d + 1
  | .map entries => uptoBulkEntries entries + 1
  | .held _ => 1
def uptoBulkAll {H : Type} : List (DataW H) → Nat
  | [] => 0
  | d :: r => uptoBulk d + uptoBulkAll r
def uptoBulkEntries {H : Type} : List (Lit × DataW H) → Nat
  | [] => 0
  | x :: r => uptoBulkEntry x + uptoBulkEntries r
def uptoBulkEntry {H : Type} : Lit × DataW H → Nat
  | (.string bytes, d) => bytes.length + uptoBulk d + 1
  | (_, d) => uptoBulk d + 1
 end
def uptoSmall : (H : Type) → List (DataW H) → Bool := fun _ ds => decide (uptoBulkAll ds ≤ 1048576)
def OpenSpec.upto (s : _root_.Go.ChangeSpec) : _root_.Go.OpenSpec := { _root_.Go.OpenSpec.ofChange s with cond := some uptoSmall }

/-- 'wishbooklaw09.ClaimTruths', WHERE WHAT IT READS IS OF BULK AT MOST 1048576: true; the input reads as it did. -/
def claimTruthsUptoRow : OpenClaim := { program := "ythbekoofiienjaadoor", sum := "839499ec957053686a16b7776117ceb7c58f091572cfc70a5a1056a0807383b2", func := "wishbook/wishbooklaw09.ClaimTruths", spec := "claimTruths", unfollowed := true, recurses := true, named := ["wishbook/claim.marks"], plainKeys := false, apart := false, laid := [("wishbook/claim.marks", laid_wishbook_claim_marks)], narrowed := true }
def ClaimTruthsUptoSaid : Prop := claimTruthsUptoRow.holds Tryd.pinned (OpenSpec.upto claimTruthsSpec)

/-- 'wishbooklaw09.ClaimBoxes', WHERE WHAT IT READS IS OF BULK AT MOST 1048576: true; the input reads as it did. -/
def claimBoxesUptoRow : OpenClaim := { program := "ythbekoofiienjaadoor", sum := "839499ec957053686a16b7776117ceb7c58f091572cfc70a5a1056a0807383b2", func := "wishbook/wishbooklaw09.ClaimBoxes", spec := "claimBoxes", unfollowed := true, recurses := true, named := ["wishbook/claim.marks"], plainKeys := false, apart := false, laid := [("wishbook/claim.marks", laid_wishbook_claim_marks)], narrowed := true }
def ClaimBoxesUptoSaid : Prop := claimBoxesUptoRow.holds Tryd.pinned (OpenSpec.upto claimBoxesSpec)

/-- 'wishbooklaw09.ClaimBacks', WHERE WHAT IT READS IS OF BULK AT MOST 1048576: true; the input reads as it did. -/
def claimBacksUptoRow : OpenClaim := { program := "ythbekoofiienjaadoor", sum := "839499ec957053686a16b7776117ceb7c58f091572cfc70a5a1056a0807383b2", func := "wishbook/wishbooklaw09.ClaimBacks", spec := "claimBacks", unfollowed := true, recurses := true, named := ["wishbook/claim.marks"], plainKeys := false, apart := false, laid := [("wishbook/claim.marks", laid_wishbook_claim_marks)], narrowed := true }
def ClaimBacksUptoSaid : Prop := claimBacksUptoRow.holds Tryd.pinned (OpenSpec.upto claimBacksSpec)

/-- 'wishbooklaw09.ClaimWrongs', WHERE WHAT IT READS IS OF BULK AT MOST 1048576: true; the input reads as it did. -/
def claimWrongsUptoRow : OpenClaim := { program := "ythbekoofiienjaadoor", sum := "839499ec957053686a16b7776117ceb7c58f091572cfc70a5a1056a0807383b2", func := "wishbook/wishbooklaw09.ClaimWrongs", spec := "claimWrongs", unfollowed := true, recurses := true, named := ["wishbook/claim.marks"], plainKeys := false, apart := false, laid := [("wishbook/claim.marks", laid_wishbook_claim_marks)], narrowed := true }
def ClaimWrongsUptoSaid : Prop := claimWrongsUptoRow.holds Tryd.pinned (OpenSpec.upto claimWrongsSpec)

/-- 'wishbooklaw09.ClaimTrue', WHERE WHAT IT READS IS OF BULK AT MOST 1048576: true; the input reads as it did. -/
def claimTrueUptoRow : OpenClaim := { program := "ythbekoofiienjaadoor", sum := "839499ec957053686a16b7776117ceb7c58f091572cfc70a5a1056a0807383b2", func := "wishbook/wishbooklaw09.ClaimTrue", spec := "claimTrue", unfollowed := true, recurses := true, named := ["wishbook/claim.marks"], plainKeys := false, apart := false, laid := [("wishbook/claim.marks", laid_wishbook_claim_marks)], narrowed := true }
def ClaimTrueUptoSaid : Prop := claimTrueUptoRow.holds Tryd.pinned (OpenSpec.upto claimTrueSpec)

/-- 'wishbooklaw09.ClaimEach', WHERE WHAT IT READS IS OF BULK AT MOST 1048576: true; the input reads as it did. -/
def claimEachUptoRow : OpenClaim := { program := "ythbekoofiienjaadoor", sum := "839499ec957053686a16b7776117ceb7c58f091572cfc70a5a1056a0807383b2", func := "wishbook/wishbooklaw09.ClaimEach", spec := "claimEach", unfollowed := true, recurses := true, named := ["wishbook/claim.marks"], plainKeys := false, apart := false, laid := [("wishbook/claim.marks", laid_wishbook_claim_marks)], narrowed := true }
def ClaimEachUptoSaid : Prop := claimEachUptoRow.holds Tryd.pinned (OpenSpec.upto claimEachSpec)

/-- 'wishbooklaw09.ClaimCould', WHERE WHAT IT READS IS OF BULK AT MOST 1048576: true; the input reads as it did. -/
def claimCouldUptoRow : OpenClaim := { program := "ythbekoofiienjaadoor", sum := "839499ec957053686a16b7776117ceb7c58f091572cfc70a5a1056a0807383b2", func := "wishbook/wishbooklaw09.ClaimCould", spec := "claimCould", unfollowed := true, recurses := true, named := ["wishbook/claim.marks"], plainKeys := false, apart := false, laid := [("wishbook/claim.marks", laid_wishbook_claim_marks)], narrowed := true }
def ClaimCouldUptoSaid : Prop := claimCouldUptoRow.holds Tryd.pinned (OpenSpec.upto claimCouldSpec)

/-- 'wishbooklaw09.ClaimFalse', WHERE WHAT IT READS IS OF BULK AT MOST 1048576: true; the input reads as it did. -/
def claimFalseUptoRow : OpenClaim := { program := "ythbekoofiienjaadoor", sum := "839499ec957053686a16b7776117ceb7c58f091572cfc70a5a1056a0807383b2", func := "wishbook/wishbooklaw09.ClaimFalse", spec := "claimFalse", unfollowed := true, recurses := true, named := ["wishbook/claim.marks"], plainKeys := false, apart := false, laid := [("wishbook/claim.marks", laid_wishbook_claim_marks)], narrowed := true }
def ClaimFalseUptoSaid : Prop := claimFalseUptoRow.holds Tryd.pinned (OpenSpec.upto claimFalseSpec)

/-- 'wishbooklaw09.ClaimMore', WHERE WHAT IT READS IS OF BULK AT MOST 1048576: true; the input reads as it did. -/
def claimMoreUptoRow : OpenClaim := { program := "ythbekoofiienjaadoor", sum := "839499ec957053686a16b7776117ceb7c58f091572cfc70a5a1056a0807383b2", func := "wishbook/wishbooklaw09.ClaimMore", spec := "claimMore", unfollowed := true, recurses := true, named := ["wishbook/claim.marks"], plainKeys := false, apart := false, laid := [("wishbook/claim.marks", laid_wishbook_claim_marks)], narrowed := true }
def ClaimMoreUptoSaid : Prop := claimMoreUptoRow.holds Tryd.pinned (OpenSpec.upto claimMoreSpec)

/-- 'wishbooklaw09.ClaimKnown', WHERE WHAT IT READS IS OF BULK AT MOST 1048576: true; the input reads as it did. -/
def claimKnownUptoRow : OpenClaim := { program := "ythbekoofiienjaadoor", sum := "839499ec957053686a16b7776117ceb7c58f091572cfc70a5a1056a0807383b2", func := "wishbook/wishbooklaw09.ClaimKnown", spec := "claimKnown", unfollowed := true, recurses := true, named := ["wishbook/claim.marks"], plainKeys := false, apart := false, laid := [("wishbook/claim.marks", laid_wishbook_claim_marks)], narrowed := true }
def ClaimKnownUptoSaid : Prop := claimKnownUptoRow.holds Tryd.pinned (OpenSpec.upto claimKnownSpec)

end Rows
end Go.Proofs.YthbekoofiienjaaDoor
