/-
  NARROWER THAN 'FOR EVERY INPUT', by the rows' own cells (each row's printed sentence says how): RegistryKeeps: laid · RegistryPlays: laid · RegistryGoes: laid.
  DERIVED. THE GIVEN ROWS OF THIS SEAT. 3 by the template 'for every input the law returns true; each argument reads behind the call as it read before'; 0 by the template 'total and deterministic' (their statements: YtofmdmmgbfbaoaaDoorTotals.lean).
  GIVEN WITH THE SEED: the statements are not yours to turn. If you find one false, say at which input.
  Laid BY PROGRAM, IN A SANDBOX (cutbox-rows.mjs): the forced cells as the released guide's own fill.sh prints them over the translation 7f27fb230973f4bc… (all of the seat's roots in one cut). By AI agents, Wed Nov 11 2026. No macro, syntax, notation, axiom, sorry.
-/
import Derived.Test.YtofmdmmgbfbaoaaDoorChecked
import GoSem.Claim
import GoSem.ClaimJoined
import GoSem.ClaimMapViews
import Derived.JoinedTies
import Derived.KernelRfl
namespace Go.Proofs.YtofmdmmgbfbaoaaDoor
/- THE CELL 'sum', in the pinned program and in every row, IS THE sha256 OF THE DUMP (.gsa) THAT YtofmdmmgbfbaoaaDoorProg.lean LOADS. Nothing in Lean hashes anything: it is a label: what it is worth is what the hold of that sum in a sandbox is worth. -/
noncomputable def Tryd.pinned : Pinned := { name := "ytofmdmmgbfbaoaadoor", sum := "7f27fb230973f4bcc5e7313d8f5bf63a88699922d1d3eec2200e1c53728321e0", checked := Tryd.checked }
namespace Rows
def none {H : Type} : Left H := { results := [], args := [] }

/- WHAT THE LISTED PACKAGE-LEVEL VARIABLES READ AS WHEN THE CALL BEGINS. Each datum BY PROGRAM (the guide's laid-datum.mjs) off the statement by which the dump's own 'gosem.cut.vars' lays the variable. In a bare row this is a premise. The card (YtofmdmmgbfbaoaaDoorCards.lean) ties it to the program's text. -/
def laid_onceweb_lex_keys {H : Type} : DataW H := .agg [.lit (.string [99, 101, 108, 108]), .lit (.string [97, 103, 97, 105, 110]), .lit (.string [116, 114, 105, 101, 115]), .lit (.string [98, 97, 115, 101]), .lit (.string [102, 97, 99, 116, 111, 114]), .lit (.string [99, 97, 112]), .lit (.string [99, 108, 111, 115, 101]), .lit (.string [102, 105, 110, 101]), .lit (.string [102, 97, 105, 108]), .lit (.string [112, 97, 110, 105, 99]), .lit (.string [105, 102]), .lit (.string [116, 104, 101, 110]), .lit (.string [101, 108, 115, 101]), .lit (.string [116, 114, 121]), .lit (.string [119, 97, 105, 116]), .lit (.string [108, 101, 116]), .lit (.string [105, 110]), .lit (.string [105, 116, 101, 109]), .lit (.string [115, 105, 122, 101])]

/-- 'onceweblaw17.RegistryKeeps': WHATEVER THE INPUT: true; the input reads as it did. -/
def registryKeepsSpec : ChangeSpec := { name := "registryKeeps", fn := fun _ => fun
  | [d] => { results := [.lit (.bool true)], args := [d] }
  | _ => none }
def registryKeepsRow : OpenClaim := { program := "ytofmdmmgbfbaoaadoor", sum := "7f27fb230973f4bcc5e7313d8f5bf63a88699922d1d3eec2200e1c53728321e0", func := "onceweb/onceweblaw17.RegistryKeeps", spec := "registryKeeps", unfollowed := true, recurses := true, named := ["onceweb/lex.keys"], apart := false, laid := [("onceweb/lex.keys", laid_onceweb_lex_keys)] }
def RegistryKeepsSaid : Prop := registryKeepsRow.holds Tryd.pinned (OpenSpec.ofChange registryKeepsSpec)

/-- ITS FALSE NEIGHBOUR: 'it returns false'. Refute it at one input. -/
def registryKeepsWrong : ChangeSpec := { name := "registryKeeps", fn := fun _ => fun
  | [d] => { results := [.lit (.bool false)], args := [d] }
  | _ => none }
def RegistryKeepsWrongFalsely : Prop := registryKeepsRow.holds Tryd.pinned (OpenSpec.ofChange registryKeepsWrong)

/-- 'onceweblaw17.RegistryPlays': WHATEVER THE INPUT: true; the input reads as it did. -/
def registryPlaysSpec : ChangeSpec := { name := "registryPlays", fn := fun _ => fun
  | [d1, d2, d3] => { results := [.lit (.bool true)], args := [d1, d2, d3] }
  | _ => none }
def registryPlaysRow : OpenClaim := { program := "ytofmdmmgbfbaoaadoor", sum := "7f27fb230973f4bcc5e7313d8f5bf63a88699922d1d3eec2200e1c53728321e0", func := "onceweb/onceweblaw17.RegistryPlays", spec := "registryPlays", inPlace := ["maps.clone"], unfollowed := true, recurses := true, named := ["onceweb/lex.keys"], apart := false, laid := [("onceweb/lex.keys", laid_onceweb_lex_keys)] }
def RegistryPlaysSaid : Prop := registryPlaysRow.holds Tryd.pinned (OpenSpec.ofChange registryPlaysSpec)

/-- ITS FALSE NEIGHBOUR: 'it returns false'. Refute it at one input. -/
def registryPlaysWrong : ChangeSpec := { name := "registryPlays", fn := fun _ => fun
  | [d1, d2, d3] => { results := [.lit (.bool false)], args := [d1, d2, d3] }
  | _ => none }
def RegistryPlaysWrongFalsely : Prop := registryPlaysRow.holds Tryd.pinned (OpenSpec.ofChange registryPlaysWrong)

/-- 'onceweblaw17.RegistryGoes': WHATEVER THE INPUT: true; the input reads as it did. -/
def registryGoesSpec : ChangeSpec := { name := "registryGoes", fn := fun _ => fun
  | [d1, d2] => { results := [.lit (.bool true)], args := [d1, d2] }
  | _ => none }
def registryGoesRow : OpenClaim := { program := "ytofmdmmgbfbaoaadoor", sum := "7f27fb230973f4bcc5e7313d8f5bf63a88699922d1d3eec2200e1c53728321e0", func := "onceweb/onceweblaw17.RegistryGoes", spec := "registryGoes", inPlace := ["maps.clone"], unfollowed := true, recurses := true, named := ["onceweb/lex.keys"], apart := false, laid := [("onceweb/lex.keys", laid_onceweb_lex_keys)] }
def RegistryGoesSaid : Prop := registryGoesRow.holds Tryd.pinned (OpenSpec.ofChange registryGoesSpec)

/-- ITS FALSE NEIGHBOUR: 'it returns false'. Refute it at one input. -/
def registryGoesWrong : ChangeSpec := { name := "registryGoes", fn := fun _ => fun
  | [d1, d2] => { results := [.lit (.bool false)], args := [d1, d2] }
  | _ => none }
def RegistryGoesWrongFalsely : Prop := registryGoesRow.holds Tryd.pinned (OpenSpec.ofChange registryGoesWrong)

/- THE SECOND FORM. 'bulk': how many values and letters a reading holds, each counted each time it is reached (what is shared counts as often as it is met; a slice's spare places count too). A statement '..UptoSaid' is the law's where the arguments, and the package variables that the reading takes, are together of bulk at most 1048576: NARROWER than '..Said'. Prove '..Said' where nothing that the law and all that it calls make is longer than what came in: it says more and counts as full. Else prove '..UptoSaid'. A law counts once. -/
mutual
def uptoBulk {H : Type} : DataW H → Nat
  | .lit (.string bytes) => bytes.length + 1
  | .lit _ => 1
  | .nil => 1
  | .ptr d => uptoBulk d + 1
  | .slice elems spare => uptoBulkAll elems + uptoBulkAll spare + 1
  | .agg parts => uptoBulkAll parts + 1
  | .iface _ d => uptoBulk d + 1
  | .map entries => uptoBulkEntries entries + 1
  | .held _ => 1
def uptoBulkAll {H : Type} : List (DataW H) → Nat
  | [] => 0
  | d :: r => uptoBulk d + uptoBulkAll r
def uptoBulkEntries {H : Type} : List (Lit × DataW H) → Nat
  | [] => 0
  | x :: r => uptoBulkEntry x + uptoBulkEntries r
def uptoBulkEntry {H : Type} : Lit × DataW H → Nat
  | (.string bytes, d) => bytes.length + uptoBulk d + 1
  | (_, d) => uptoBulk d + 1
 end
def uptoSmall : (H : Type) → List (DataW H) → Bool := fun _ ds => decide (uptoBulkAll ds ≤ 1048576)
def OpenSpec.upto (s : _root_.Go.ChangeSpec) : _root_.Go.OpenSpec := { _root_.Go.OpenSpec.ofChange s with cond := some uptoSmall }

/-- 'onceweblaw17.RegistryKeeps', WHERE WHAT IT READS IS OF BULK AT MOST 1048576: true; the input reads as it did. -/
def registryKeepsUptoRow : OpenClaim := { program := "ytofmdmmgbfbaoaadoor", sum := "7f27fb230973f4bcc5e7313d8f5bf63a88699922d1d3eec2200e1c53728321e0", func := "onceweb/onceweblaw17.RegistryKeeps", spec := "registryKeeps", unfollowed := true, recurses := true, named := ["onceweb/lex.keys"], apart := false, laid := [("onceweb/lex.keys", laid_onceweb_lex_keys)], narrowed := true }
def RegistryKeepsUptoSaid : Prop := registryKeepsUptoRow.holds Tryd.pinned (OpenSpec.upto registryKeepsSpec)

/-- 'onceweblaw17.RegistryPlays', WHERE WHAT IT READS IS OF BULK AT MOST 1048576: true; the input reads as it did. -/
def registryPlaysUptoRow : OpenClaim := { program := "ytofmdmmgbfbaoaadoor", sum := "7f27fb230973f4bcc5e7313d8f5bf63a88699922d1d3eec2200e1c53728321e0", func := "onceweb/onceweblaw17.RegistryPlays", spec := "registryPlays", inPlace := ["maps.clone"], unfollowed := true, recurses := true, named := ["onceweb/lex.keys"], apart := false, laid := [("onceweb/lex.keys", laid_onceweb_lex_keys)], narrowed := true }
def RegistryPlaysUptoSaid : Prop := registryPlaysUptoRow.holds Tryd.pinned (OpenSpec.upto registryPlaysSpec)

/-- 'onceweblaw17.RegistryGoes', WHERE WHAT IT READS IS OF BULK AT MOST 1048576: true; the input reads as it did. -/
def registryGoesUptoRow : OpenClaim := { program := "ytofmdmmgbfbaoaadoor", sum := "7f27fb230973f4bcc5e7313d8f5bf63a88699922d1d3eec2200e1c53728321e0", func := "onceweb/onceweblaw17.RegistryGoes", spec := "registryGoes", inPlace := ["maps.clone"], unfollowed := true, recurses := true, named := ["onceweb/lex.keys"], apart := false, laid := [("onceweb/lex.keys", laid_onceweb_lex_keys)], narrowed := true }
def RegistryGoesUptoSaid : Prop := registryGoesUptoRow.holds Tryd.pinned (OpenSpec.upto registryGoesSpec)

end Rows
end Go.Proofs.YtofmdmmgbfbaoaaDoor
