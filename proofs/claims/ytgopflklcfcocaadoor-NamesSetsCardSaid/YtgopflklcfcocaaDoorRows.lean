/-
  NARROWER THAN 'FOR EVERY INPUT', by the rows' own cells (each row's printed sentence says how): NamesChecks: laid · NamesParts: laid · NamesAsks: laid · NamesRenames: laid · NamesSets: laid · NamesClosures: laid · NamesCloses: laid · NamesOrders: laid.
  DERIVED. THE GIVEN ROWS OF THIS SEAT. 8 by the template 'for every input the law returns true; each argument reads behind the call as it read before'; 0 by the template 'total and deterministic' (their statements: YtgopflklcfcocaaDoorTotals.lean).
  GIVEN WITH THE SEED: the statements are not yours to turn. If you find one false, say at which input.
  Laid BY PROGRAM, IN A SANDBOX (cutbox-rows.mjs): the forced cells as the released guide's own fill.sh prints them over the translation e51e5eb7f179422b… (all of the seat's roots in one cut). By AI agents, Wed Nov 11 2026. No macro, syntax, notation, axiom, sorry.
-/
import Derived.Test.YtgopflklcfcocaaDoorChecked
import GoSem.Claim
import GoSem.ClaimJoined
import GoSem.ClaimMapViews
import Derived.JoinedTies
import Derived.KernelRfl
namespace Go.Proofs.YtgopflklcfcocaaDoor
/- THE CELL 'sum', in the pinned program and in every row, IS THE sha256 OF THE DUMP (.gsa) THAT YtgopflklcfcocaaDoorProg.lean LOADS. Nothing in Lean hashes anything: it is a label: what it is worth is what the hold of that sum in a sandbox is worth. -/
noncomputable def Tryd.pinned : Pinned := { name := "ytgopflklcfcocaadoor", sum := "e51e5eb7f179422b5ecf40e053e8198ea4ced59dde640f6e1abf4bcc52f1817c", checked := Tryd.checked }
namespace Rows
def none {H : Type} : Left H := { results := [], args := [] }

/- WHAT THE LISTED PACKAGE-LEVEL VARIABLES READ AS WHEN THE CALL BEGINS. Each datum BY PROGRAM (the guide's laid-datum.mjs) off the statement by which the dump's own 'gosem.cut.vars' lays the variable. In a bare row this is a premise. The card (YtgopflklcfcocaaDoorCards.lean) ties it to the program's text. -/
def laid_onceweb_lex_keys {H : Type} : DataW H := .agg [.lit (.string [99, 101, 108, 108]), .lit (.string [97, 103, 97, 105, 110]), .lit (.string [116, 114, 105, 101, 115]), .lit (.string [98, 97, 115, 101]), .lit (.string [102, 97, 99, 116, 111, 114]), .lit (.string [99, 97, 112]), .lit (.string [99, 108, 111, 115, 101]), .lit (.string [102, 105, 110, 101]), .lit (.string [102, 97, 105, 108]), .lit (.string [112, 97, 110, 105, 99]), .lit (.string [105, 102]), .lit (.string [116, 104, 101, 110]), .lit (.string [101, 108, 115, 101]), .lit (.string [116, 114, 121]), .lit (.string [119, 97, 105, 116]), .lit (.string [108, 101, 116]), .lit (.string [105, 110]), .lit (.string [105, 116, 101, 109]), .lit (.string [115, 105, 122, 101])]

/-- 'onceweblaw05.NamesChecks': WHATEVER THE INPUT: true; the input reads as it did. -/
def namesChecksSpec : ChangeSpec := { name := "namesChecks", fn := fun _ => fun
  | [d1, d2] => { results := [.lit (.bool true)], args := [d1, d2] }
  | _ => none }
def namesChecksRow : OpenClaim := { program := "ytgopflklcfcocaadoor", sum := "e51e5eb7f179422b5ecf40e053e8198ea4ced59dde640f6e1abf4bcc52f1817c", func := "onceweb/onceweblaw05.NamesChecks", spec := "namesChecks", unfollowed := true, recurses := true, named := ["onceweb/lex.keys"], apart := false, laid := [("onceweb/lex.keys", laid_onceweb_lex_keys)] }
def NamesChecksSaid : Prop := namesChecksRow.holds Tryd.pinned (OpenSpec.ofChange namesChecksSpec)

/-- ITS FALSE NEIGHBOUR: 'it returns false'. Refute it at one input. -/
def namesChecksWrong : ChangeSpec := { name := "namesChecks", fn := fun _ => fun
  | [d1, d2] => { results := [.lit (.bool false)], args := [d1, d2] }
  | _ => none }
def NamesChecksWrongFalsely : Prop := namesChecksRow.holds Tryd.pinned (OpenSpec.ofChange namesChecksWrong)

/-- 'onceweblaw05.NamesParts': WHATEVER THE INPUT: true; the input reads as it did. -/
def namesPartsSpec : ChangeSpec := { name := "namesParts", fn := fun _ => fun
  | [d1, d2, d3, d4] => { results := [.lit (.bool true)], args := [d1, d2, d3, d4] }
  | _ => none }
def namesPartsRow : OpenClaim := { program := "ytgopflklcfcocaadoor", sum := "e51e5eb7f179422b5ecf40e053e8198ea4ced59dde640f6e1abf4bcc52f1817c", func := "onceweb/onceweblaw05.NamesParts", spec := "namesParts", unfollowed := true, recurses := true, named := ["onceweb/lex.keys"], apart := false, laid := [("onceweb/lex.keys", laid_onceweb_lex_keys)] }
def NamesPartsSaid : Prop := namesPartsRow.holds Tryd.pinned (OpenSpec.ofChange namesPartsSpec)

/-- ITS FALSE NEIGHBOUR: 'it returns false'. Refute it at one input. -/
def namesPartsWrong : ChangeSpec := { name := "namesParts", fn := fun _ => fun
  | [d1, d2, d3, d4] => { results := [.lit (.bool false)], args := [d1, d2, d3, d4] }
  | _ => none }
def NamesPartsWrongFalsely : Prop := namesPartsRow.holds Tryd.pinned (OpenSpec.ofChange namesPartsWrong)

/-- 'onceweblaw05.NamesAsks': WHATEVER THE INPUT: true; the input reads as it did. -/
def namesAsksSpec : ChangeSpec := { name := "namesAsks", fn := fun _ => fun
  | [d] => { results := [.lit (.bool true)], args := [d] }
  | _ => none }
def namesAsksRow : OpenClaim := { program := "ytgopflklcfcocaadoor", sum := "e51e5eb7f179422b5ecf40e053e8198ea4ced59dde640f6e1abf4bcc52f1817c", func := "onceweb/onceweblaw05.NamesAsks", spec := "namesAsks", unfollowed := true, recurses := true, named := ["onceweb/lex.keys"], apart := false, laid := [("onceweb/lex.keys", laid_onceweb_lex_keys)] }
def NamesAsksSaid : Prop := namesAsksRow.holds Tryd.pinned (OpenSpec.ofChange namesAsksSpec)

/-- ITS FALSE NEIGHBOUR: 'it returns false'. Refute it at one input. -/
def namesAsksWrong : ChangeSpec := { name := "namesAsks", fn := fun _ => fun
  | [d] => { results := [.lit (.bool false)], args := [d] }
  | _ => none }
def NamesAsksWrongFalsely : Prop := namesAsksRow.holds Tryd.pinned (OpenSpec.ofChange namesAsksWrong)

/-- 'onceweblaw05.NamesRenames': WHATEVER THE INPUT: true; the input reads as it did. -/
def namesRenamesSpec : ChangeSpec := { name := "namesRenames", fn := fun _ => fun
  | [d1, d2, d3] => { results := [.lit (.bool true)], args := [d1, d2, d3] }
  | _ => none }
def namesRenamesRow : OpenClaim := { program := "ytgopflklcfcocaadoor", sum := "e51e5eb7f179422b5ecf40e053e8198ea4ced59dde640f6e1abf4bcc52f1817c", func := "onceweb/onceweblaw05.NamesRenames", spec := "namesRenames", unfollowed := true, recurses := true, named := ["onceweb/lex.keys"], apart := false, laid := [("onceweb/lex.keys", laid_onceweb_lex_keys)] }
def NamesRenamesSaid : Prop := namesRenamesRow.holds Tryd.pinned (OpenSpec.ofChange namesRenamesSpec)

/-- ITS FALSE NEIGHBOUR: 'it returns false'. Refute it at one input. -/
def namesRenamesWrong : ChangeSpec := { name := "namesRenames", fn := fun _ => fun
  | [d1, d2, d3] => { results := [.lit (.bool false)], args := [d1, d2, d3] }
  | _ => none }
def NamesRenamesWrongFalsely : Prop := namesRenamesRow.holds Tryd.pinned (OpenSpec.ofChange namesRenamesWrong)

/-- 'onceweblaw05.NamesSets': WHATEVER THE INPUT: true; the input reads as it did. -/
def namesSetsSpec : ChangeSpec := { name := "namesSets", fn := fun _ => fun
  | [d] => { results := [.lit (.bool true)], args := [d] }
  | _ => none }
def namesSetsRow : OpenClaim := { program := "ytgopflklcfcocaadoor", sum := "e51e5eb7f179422b5ecf40e053e8198ea4ced59dde640f6e1abf4bcc52f1817c", func := "onceweb/onceweblaw05.NamesSets", spec := "namesSets", unfollowed := true, recurses := true, named := ["onceweb/lex.keys"], apart := false, laid := [("onceweb/lex.keys", laid_onceweb_lex_keys)] }
def NamesSetsSaid : Prop := namesSetsRow.holds Tryd.pinned (OpenSpec.ofChange namesSetsSpec)

/-- ITS FALSE NEIGHBOUR: 'it returns false'. Refute it at one input. -/
def namesSetsWrong : ChangeSpec := { name := "namesSets", fn := fun _ => fun
  | [d] => { results := [.lit (.bool false)], args := [d] }
  | _ => none }
def NamesSetsWrongFalsely : Prop := namesSetsRow.holds Tryd.pinned (OpenSpec.ofChange namesSetsWrong)

/-- 'onceweblaw05.NamesClosures': WHATEVER THE INPUT: true; the input reads as it did. -/
def namesClosuresSpec : ChangeSpec := { name := "namesClosures", fn := fun _ => fun
  | [d1, d2] => { results := [.lit (.bool true)], args := [d1, d2] }
  | _ => none }
def namesClosuresRow : OpenClaim := { program := "ytgopflklcfcocaadoor", sum := "e51e5eb7f179422b5ecf40e053e8198ea4ced59dde640f6e1abf4bcc52f1817c", func := "onceweb/onceweblaw05.NamesClosures", spec := "namesClosures", unfollowed := true, recurses := true, named := ["onceweb/lex.keys"], apart := false, laid := [("onceweb/lex.keys", laid_onceweb_lex_keys)] }
def NamesClosuresSaid : Prop := namesClosuresRow.holds Tryd.pinned (OpenSpec.ofChange namesClosuresSpec)

/-- ITS FALSE NEIGHBOUR: 'it returns false'. Refute it at one input. -/
def namesClosuresWrong : ChangeSpec := { name := "namesClosures", fn := fun _ => fun
  | [d1, d2] => { results := [.lit (.bool false)], args := [d1, d2] }
  | _ => none }
def NamesClosuresWrongFalsely : Prop := namesClosuresRow.holds Tryd.pinned (OpenSpec.ofChange namesClosuresWrong)

/-- 'onceweblaw05.NamesCloses': WHATEVER THE INPUT: true; the input reads as it did. -/
def namesClosesSpec : ChangeSpec := { name := "namesCloses", fn := fun _ => fun
  | [d] => { results := [.lit (.bool true)], args := [d] }
  | _ => none }
def namesClosesRow : OpenClaim := { program := "ytgopflklcfcocaadoor", sum := "e51e5eb7f179422b5ecf40e053e8198ea4ced59dde640f6e1abf4bcc52f1817c", func := "onceweb/onceweblaw05.NamesCloses", spec := "namesCloses", unfollowed := true, recurses := true, named := ["onceweb/lex.keys"], apart := false, laid := [("onceweb/lex.keys", laid_onceweb_lex_keys)] }
def NamesClosesSaid : Prop := namesClosesRow.holds Tryd.pinned (OpenSpec.ofChange namesClosesSpec)

/-- ITS FALSE NEIGHBOUR: 'it returns false'. Refute it at one input. -/
def namesClosesWrong : ChangeSpec := { name := "namesCloses", fn := fun _ => fun
  | [d] => { results := [.lit (.bool false)], args := [d] }
  | _ => none }
def NamesClosesWrongFalsely : Prop := namesClosesRow.holds Tryd.pinned (OpenSpec.ofChange namesClosesWrong)

/-- 'onceweblaw05.NamesOrders': WHATEVER THE INPUT: true; the input reads as it did. -/
def namesOrdersSpec : ChangeSpec := { name := "namesOrders", fn := fun _ => fun
  | [d1, d2] => { results := [.lit (.bool true)], args := [d1, d2] }
  | _ => none }
def namesOrdersRow : OpenClaim := { program := "ytgopflklcfcocaadoor", sum := "e51e5eb7f179422b5ecf40e053e8198ea4ced59dde640f6e1abf4bcc52f1817c", func := "onceweb/onceweblaw05.NamesOrders", spec := "namesOrders", unfollowed := true, recurses := true, named := ["onceweb/lex.keys"], apart := false, laid := [("onceweb/lex.keys", laid_onceweb_lex_keys)] }
def NamesOrdersSaid : Prop := namesOrdersRow.holds Tryd.pinned (OpenSpec.ofChange namesOrdersSpec)

/-- ITS FALSE NEIGHBOUR: 'it returns false'. Refute it at one input. -/
def namesOrdersWrong : ChangeSpec := { name := "namesOrders", fn := fun _ => fun
  | [d1, d2] => { results := [.lit (.bool false)], args := [d1, d2] }
  | _ => none }
def NamesOrdersWrongFalsely : Prop := namesOrdersRow.holds Tryd.pinned (OpenSpec.ofChange namesOrdersWrong)

/- THE SECOND FORM. 'bulk': how many values and letters a reading holds, each counted each time it is reached (what is shared counts as often as it is met; a slice's spare places count too). A statement '..UptoSaid' is the law's where the arguments, and the package variables that the reading takes, are together of bulk at most 1048576: NARROWER than '..Said'. Prove '..Said' where nothing that the law and all that it calls make is longer than what came in: it says more and counts as full. Else prove '..UptoSaid'. A law counts once. -/
mutual
def uptoBulk {H : Type} : DataW H → Nat
  | .lit (.string bytes) => bytes.length + 1
  | .lit _ => 1
  | .nil => 1
  | .ptr d => uptoBulk d + 1
  | .slice elems spare => uptoBulkAll elems + uptoBulkAll spare + 1
  | .agg parts => uptoBulkAll parts + 1
  | .iface _ d => uptoBulk d + 1
  | .map entries => uptoBulkEntries entries + 1
  | .held _ => 1
def uptoBulkAll {H : Type} : List (DataW H) → Nat
  | [] => 0
  | d :: r => uptoBulk d + uptoBulkAll r
def uptoBulkEntries {H : Type} : List (Lit × DataW H) → Nat
  | [] => 0
  | x :: r => uptoBulkEntry x + uptoBulkEntries r
def uptoBulkEntry {H : Type} : Lit × DataW H → Nat
  | (.string bytes, d) => bytes.length + uptoBulk d + 1
  | (_, d) => uptoBulk d + 1
 end
def uptoSmall : (H : Type) → List (DataW H) → Bool := fun _ ds => decide (uptoBulkAll ds ≤ 1048576)
def OpenSpec.upto (s : _root_.Go.ChangeSpec) : _root_.Go.OpenSpec := { _root_.Go.OpenSpec.ofChange s with cond := some uptoSmall }

/-- 'onceweblaw05.NamesChecks', WHERE WHAT IT READS IS OF BULK AT MOST 1048576: true; the input reads as it did. -/
def namesChecksUptoRow : OpenClaim := { program := "ytgopflklcfcocaadoor", sum := "e51e5eb7f179422b5ecf40e053e8198ea4ced59dde640f6e1abf4bcc52f1817c", func := "onceweb/onceweblaw05.NamesChecks", spec := "namesChecks", unfollowed := true, recurses := true, named := ["onceweb/lex.keys"], apart := false, laid := [("onceweb/lex.keys", laid_onceweb_lex_keys)], narrowed := true }
def NamesChecksUptoSaid : Prop := namesChecksUptoRow.holds Tryd.pinned (OpenSpec.upto namesChecksSpec)

/-- 'onceweblaw05.NamesParts', WHERE WHAT IT READS IS OF BULK AT MOST 1048576: true; the input reads as it did. -/
def namesPartsUptoRow : OpenClaim := { program := "ytgopflklcfcocaadoor", sum := "e51e5eb7f179422b5ecf40e053e8198ea4ced59dde640f6e1abf4bcc52f1817c", func := "onceweb/onceweblaw05.NamesParts", spec := "namesParts", unfollowed := true, recurses := true, named := ["onceweb/lex.keys"], apart := false, laid := [("onceweb/lex.keys", laid_onceweb_lex_keys)], narrowed := true }
def NamesPartsUptoSaid : Prop := namesPartsUptoRow.holds Tryd.pinned (OpenSpec.upto namesPartsSpec)

/-- 'onceweblaw05.NamesAsks', WHERE WHAT IT READS IS OF BULK AT MOST 1048576: true; the input reads as it did. -/
def namesAsksUptoRow : OpenClaim := { program := "ytgopflklcfcocaadoor", sum := "e51e5eb7f179422b5ecf40e053e8198ea4ced59dde640f6e1abf4bcc52f1817c", func := "onceweb/onceweblaw05.NamesAsks", spec := "namesAsks", unfollowed := true, recurses := true, named := ["onceweb/lex.keys"], apart := false, laid := [("onceweb/lex.keys", laid_onceweb_lex_keys)], narrowed := true }
def NamesAsksUptoSaid : Prop := namesAsksUptoRow.holds Tryd.pinned (OpenSpec.upto namesAsksSpec)

/-- 'onceweblaw05.NamesRenames', WHERE WHAT IT READS IS OF BULK AT MOST 1048576: true; the input reads as it did. -/
def namesRenamesUptoRow : OpenClaim := { program := "ytgopflklcfcocaadoor", sum := "e51e5eb7f179422b5ecf40e053e8198ea4ced59dde640f6e1abf4bcc52f1817c", func := "onceweb/onceweblaw05.NamesRenames", spec := "namesRenames", unfollowed := true, recurses := true, named := ["onceweb/lex.keys"], apart := false, laid := [("onceweb/lex.keys", laid_onceweb_lex_keys)], narrowed := true }
def NamesRenamesUptoSaid : Prop := namesRenamesUptoRow.holds Tryd.pinned (OpenSpec.upto namesRenamesSpec)

/-- 'onceweblaw05.NamesSets', WHERE WHAT IT READS IS OF BULK AT MOST 1048576: true; the input reads as it did. -/
def namesSetsUptoRow : OpenClaim := { program := "ytgopflklcfcocaadoor", sum := "e51e5eb7f179422b5ecf40e053e8198ea4ced59dde640f6e1abf4bcc52f1817c", func := "onceweb/onceweblaw05.NamesSets", spec := "namesSets", unfollowed := true, recurses := true, named := ["onceweb/lex.keys"], apart := false, laid := [("onceweb/lex.keys", laid_onceweb_lex_keys)], narrowed := true }
def NamesSetsUptoSaid : Prop := namesSetsUptoRow.holds Tryd.pinned (OpenSpec.upto namesSetsSpec)

/-- 'onceweblaw05.NamesClosures', WHERE WHAT IT READS IS OF BULK AT MOST 1048576: true; the input reads as it did. -/
def namesClosuresUptoRow : OpenClaim := { program := "ytgopflklcfcocaadoor", sum := "e51e5eb7f179422b5ecf40e053e8198ea4ced59dde640f6e1abf4bcc52f1817c", func := "onceweb/onceweblaw05.NamesClosures", spec := "namesClosures", unfollowed := true, recurses := true, named := ["onceweb/lex.keys"], apart := false, laid := [("onceweb/lex.keys", laid_onceweb_lex_keys)], narrowed := true }
def NamesClosuresUptoSaid : Prop := namesClosuresUptoRow.holds Tryd.pinned (OpenSpec.upto namesClosuresSpec)

/-- 'onceweblaw05.NamesCloses', WHERE WHAT IT READS IS OF BULK AT MOST 1048576: true; the input reads as it did. -/
def namesClosesUptoRow : OpenClaim := { program := "ytgopflklcfcocaadoor", sum := "e51e5eb7f179422b5ecf40e053e8198ea4ced59dde640f6e1abf4bcc52f1817c", func := "onceweb/onceweblaw05.NamesCloses", spec := "namesCloses", unfollowed := true, recurses := true, named := ["onceweb/lex.keys"], apart := false, laid := [("onceweb/lex.keys", laid_onceweb_lex_keys)], narrowed := true }
def NamesClosesUptoSaid : Prop := namesClosesUptoRow.holds Tryd.pinned (OpenSpec.upto namesClosesSpec)

/-- 'onceweblaw05.NamesOrders', WHERE WHAT IT READS IS OF BULK AT MOST 1048576: true; the input reads as it did. -/
def namesOrdersUptoRow : OpenClaim := { program := "ytgopflklcfcocaadoor", sum := "e51e5eb7f179422b5ecf40e053e8198ea4ced59dde640f6e1abf4bcc52f1817c", func := "onceweb/onceweblaw05.NamesOrders", spec := "namesOrders", unfollowed := true, recurses := true, named := ["onceweb/lex.keys"], apart := false, laid := [("onceweb/lex.keys", laid_onceweb_lex_keys)], narrowed := true }
def NamesOrdersUptoSaid : Prop := namesOrdersUptoRow.holds Tryd.pinned (OpenSpec.upto namesOrdersSpec)

end Rows
end Go.Proofs.YtgopflklcfcocaaDoor
