/-
  No cell of these rows narrows 'for every input' (looked for: loops, veiled, ifaces, maps, wideKeys, modest, calm, conditions, laid).
  DERIVED. THE GIVEN ROWS OF THIS SEAT. 4 by the template 'for every input the law returns true; each argument reads behind the call as it read before'; 0 by the template 'total and deterministic' (their statements: YtbgnchddeklmeaaTotals.lean).
  GIVEN WITH THE SEED: the statements are not yours to turn. If you find one false, say at which input.
  Laid BY PROGRAM, IN A SANDBOX (cutbox-rows.mjs): the forced cells as the released guide's own fill.sh prints them over the translation 4576e6821833a874… (all of the seat's roots in one cut). By AI agents, Wed Nov 11 2026. No macro, syntax, notation, axiom, sorry.
-/
import Derived.Test.YtbgnchddeklmeaaChecked
import GoSem.Claim
import GoSem.ClaimJoined
import GoSem.ClaimMapViews
import Derived.JoinedTies
import Derived.KernelRfl
namespace Go.Proofs.Ytbgnchddeklmeaa
/- THE CELL 'sum', in the pinned program and in every row, IS THE sha256 OF THE DUMP (.gsa) THAT YtbgnchddeklmeaaProg.lean LOADS. Nothing in Lean hashes anything: it is a label: what it is worth is what the hold of that sum in a sandbox is worth. -/
noncomputable def Try.pinned : Pinned := { name := "ytbgnchddeklmeaa", sum := "4576e6821833a87475ed5558eda2366945988a1f3f5b0b64c11cef763c2855fb", checked := Try.checked }
namespace Rows
def none {H : Type} : Left H := { results := [], args := [] }

/-- 'onceweblaw20.SchedStarves': WHATEVER THE INPUT: true; the input reads as it did. -/
def schedStarvesSpec : ChangeSpec := { name := "schedStarves", fn := fun _ => fun
  | [d1, d2, d3, d4] => { results := [.lit (.bool true)], args := [d1, d2, d3, d4] }
  | _ => none }
def schedStarvesRow : OpenClaim := { program := "ytbgnchddeklmeaa", sum := "4576e6821833a87475ed5558eda2366945988a1f3f5b0b64c11cef763c2855fb", func := "onceweb/onceweblaw20.SchedStarves", spec := "schedStarves", unfollowed := true, recurses := true, apart := false }
def SchedStarvesSaid : Prop := schedStarvesRow.holds Try.pinned (OpenSpec.ofChange schedStarvesSpec)

/-- ITS FALSE NEIGHBOUR: 'it returns false'. Refute it at one input. -/
def schedStarvesWrong : ChangeSpec := { name := "schedStarves", fn := fun _ => fun
  | [d1, d2, d3, d4] => { results := [.lit (.bool false)], args := [d1, d2, d3, d4] }
  | _ => none }
def SchedStarvesWrongFalsely : Prop := schedStarvesRow.holds Try.pinned (OpenSpec.ofChange schedStarvesWrong)

/-- 'onceweblaw20.SchedThrows': WHATEVER THE INPUT: true; the input reads as it did. -/
def schedThrowsSpec : ChangeSpec := { name := "schedThrows", fn := fun _ => fun
  | [d1, d2] => { results := [.lit (.bool true)], args := [d1, d2] }
  | _ => none }
def schedThrowsRow : OpenClaim := { program := "ytbgnchddeklmeaa", sum := "4576e6821833a87475ed5558eda2366945988a1f3f5b0b64c11cef763c2855fb", func := "onceweb/onceweblaw20.SchedThrows", spec := "schedThrows", unfollowed := true, recurses := true, apart := false }
def SchedThrowsSaid : Prop := schedThrowsRow.holds Try.pinned (OpenSpec.ofChange schedThrowsSpec)

/-- ITS FALSE NEIGHBOUR: 'it returns false'. Refute it at one input. -/
def schedThrowsWrong : ChangeSpec := { name := "schedThrows", fn := fun _ => fun
  | [d1, d2] => { results := [.lit (.bool false)], args := [d1, d2] }
  | _ => none }
def SchedThrowsWrongFalsely : Prop := schedThrowsRow.holds Try.pinned (OpenSpec.ofChange schedThrowsWrong)

/-- 'onceweblaw20.SchedReady': WHATEVER THE INPUT: true; the input reads as it did. -/
def schedReadySpec : ChangeSpec := { name := "schedReady", fn := fun _ => fun
  | [d1, d2] => { results := [.lit (.bool true)], args := [d1, d2] }
  | _ => none }
def schedReadyRow : OpenClaim := { program := "ytbgnchddeklmeaa", sum := "4576e6821833a87475ed5558eda2366945988a1f3f5b0b64c11cef763c2855fb", func := "onceweb/onceweblaw20.SchedReady", spec := "schedReady", unfollowed := true, recurses := true, apart := false }
def SchedReadySaid : Prop := schedReadyRow.holds Try.pinned (OpenSpec.ofChange schedReadySpec)

/-- ITS FALSE NEIGHBOUR: 'it returns false'. Refute it at one input. -/
def schedReadyWrong : ChangeSpec := { name := "schedReady", fn := fun _ => fun
  | [d1, d2] => { results := [.lit (.bool false)], args := [d1, d2] }
  | _ => none }
def SchedReadyWrongFalsely : Prop := schedReadyRow.holds Try.pinned (OpenSpec.ofChange schedReadyWrong)

/-- 'onceweblaw20.SchedScripted': WHATEVER THE INPUT: true; the input reads as it did. -/
def schedScriptedSpec : ChangeSpec := { name := "schedScripted", fn := fun _ => fun
  | [d1, d2] => { results := [.lit (.bool true)], args := [d1, d2] }
  | _ => none }
def schedScriptedRow : OpenClaim := { program := "ytbgnchddeklmeaa", sum := "4576e6821833a87475ed5558eda2366945988a1f3f5b0b64c11cef763c2855fb", func := "onceweb/onceweblaw20.SchedScripted", spec := "schedScripted", unfollowed := true, recurses := true, apart := false }
def SchedScriptedSaid : Prop := schedScriptedRow.holds Try.pinned (OpenSpec.ofChange schedScriptedSpec)

/-- ITS FALSE NEIGHBOUR: 'it returns false'. Refute it at one input. -/
def schedScriptedWrong : ChangeSpec := { name := "schedScripted", fn := fun _ => fun
  | [d1, d2] => { results := [.lit (.bool false)], args := [d1, d2] }
  | _ => none }
def SchedScriptedWrongFalsely : Prop := schedScriptedRow.holds Try.pinned (OpenSpec.ofChange schedScriptedWrong)

/- THE SECOND FORM. 'bulk': how many values and letters a reading holds, each counted each time it is reached (what is shared counts as often as it is met; a slice's spare places count too). A statement '..UptoSaid' is the law's where the arguments, and the package variables that the reading takes, are together of bulk at most 1048576: NARROWER than '..Said'. Prove '..Said' where nothing that the law and all that it calls make is longer than what came in: it says more and counts as full. Else prove '..UptoSaid'. A law counts once. -/
mutual
def uptoBulk {H : Type} : DataW H → Nat
  | .lit (.string bytes) => bytes.length + 1
  | .lit _ => 1
  | .nil => 1
  | .ptr d => uptoBulk d + 1
  | .slice elems spare => uptoBulkAll elems + uptoBulkAll spare + 1
  | .agg parts => uptoBulkAll parts + 1
  | .iface _ d => uptoBulk d + 1
  | .map entries => uptoBulkEntries entries + 1
  | .held _ => 1
def uptoBulkAll {H : Type} : List (DataW H) → Nat
  | [] => 0
  | d :: r => uptoBulk d + uptoBulkAll r
def uptoBulkEntries {H : Type} : List (Lit × DataW H) → Nat
  | [] => 0
  | x :: r => uptoBulkEntry x + uptoBulkEntries r
def uptoBulkEntry {H : Type} : Lit × DataW H → Nat
  | (.string bytes, d) => bytes.length + uptoBulk d + 1
  | (_, d) => uptoBulk d + 1
 end
def uptoSmall : (H : Type) → List (DataW H) → Bool := fun _ ds => decide (uptoBulkAll ds ≤ 1048576)
def OpenSpec.upto (s : _root_.Go.ChangeSpec) : _root_.Go.OpenSpec := { _root_.Go.OpenSpec.ofChange s with cond := some uptoSmall }

/-- 'onceweblaw20.SchedStarves', WHERE WHAT IT READS IS OF BULK AT MOST 1048576: true; the input reads as it did. -/
def schedStarvesUptoRow : OpenClaim := { program := "ytbgnchddeklmeaa", sum := "4576e6821833a87475ed5558eda2366945988a1f3f5b0b64c11cef763c2855fb", func := "onceweb/onceweblaw20.SchedStarves", spec := "schedStarves", unfollowed := true, recurses := true, apart := false, narrowed := true }
def SchedStarvesUptoSaid : Prop := schedStarvesUptoRow.holds Try.pinned (OpenSpec.upto schedStarvesSpec)

/-- 'onceweblaw20.SchedThrows', WHERE WHAT IT READS IS OF BULK AT MOST 1048576: true; the input reads as it did. -/
def schedThrowsUptoRow : OpenClaim := { program := "ytbgnchddeklmeaa", sum := "4576e6821833a87475ed5558eda2366945988a1f3f5b0b64c11cef763c2855fb", func := "onceweb/onceweblaw20.SchedThrows", spec := "schedThrows", unfollowed := true, recurses := true, apart := false, narrowed := true }
def SchedThrowsUptoSaid : Prop := schedThrowsUptoRow.holds Try.pinned (OpenSpec.upto schedThrowsSpec)

/-- 'onceweblaw20.SchedReady', WHERE WHAT IT READS IS OF BULK AT MOST 1048576: true; the input reads as it did. -/
def schedReadyUptoRow : OpenClaim := { program := "ytbgnchddeklmeaa", sum := "4576e6821833a87475ed5558eda2366945988a1f3f5b0b64c11cef763c2855fb", func := "onceweb/onceweblaw20.SchedReady", spec := "schedReady", unfollowed := true, recurses := true, apart := false, narrowed := true }
def SchedReadyUptoSaid : Prop := schedReadyUptoRow.holds Try.pinned (OpenSpec.upto schedReadySpec)

/-- 'onceweblaw20.SchedScripted', WHERE WHAT IT READS IS OF BULK AT MOST 1048576: true; the input reads as it did. -/
def schedScriptedUptoRow : OpenClaim := { program := "ytbgnchddeklmeaa", sum := "4576e6821833a87475ed5558eda2366945988a1f3f5b0b64c11cef763c2855fb", func := "onceweb/onceweblaw20.SchedScripted", spec := "schedScripted", unfollowed := true, recurses := true, apart := false, narrowed := true }
def SchedScriptedUptoSaid : Prop := schedScriptedUptoRow.holds Try.pinned (OpenSpec.upto schedScriptedSpec)

end Rows
end Go.Proofs.Ytbgnchddeklmeaa
