/-
  No cell of these rows narrows 'for every input' (looked for: loops, veiled, ifaces, maps, wideKeys, modest, calm, conditions, laid).
  DERIVED. THE GIVEN ROWS OF THIS SEAT. 9 by the template 'for every input the law returns true; each argument reads behind the call as it read before'; 0 by the template 'total and deterministic' (their statements: YtpdfcffeinbcaaaTotals.lean).
  GIVEN WITH THE SEED: the statements are not yours to turn. If you find one false, say at which input.
  Laid BY PROGRAM, IN A SANDBOX (cutbox-rows.mjs): the forced cells as the released guide's own fill.sh prints them over the translation 54310dee088b4192… (all of the seat's roots in one cut). By AI agents, Wed Nov 11 2026. No macro, syntax, notation, axiom, sorry.
-/
import Derived.Test.YtpdfcffeinbcaaaChecked
import GoSem.Claim
import GoSem.ClaimJoined
import GoSem.ClaimMapViews
import Derived.JoinedTies
import Derived.KernelRfl
namespace Go.Proofs.Ytpdfcffeinbcaaa
/- THE CELL 'sum', in the pinned program and in every row, IS THE sha256 OF THE DUMP (.gsa) THAT YtpdfcffeinbcaaaProg.lean LOADS. Nothing in Lean hashes anything: it is a label: what it is worth is what the hold of that sum in a sandbox is worth. -/
noncomputable def Try.pinned : Pinned := { name := "ytpdfcffeinbcaaa", sum := "54310dee088b4192042e946bd435fcb1739b6e5a7bf13556e18ea0385f551dc8", checked := Try.checked }
namespace Rows
def none {H : Type} : Left H := { results := [], args := [] }

/-- 'onceweblaw15.GraphReaches': WHATEVER THE INPUT: true; the input reads as it did. -/
def graphReachesSpec : ChangeSpec := { name := "graphReaches", fn := fun _ => fun
  | [d1, d2, d3] => { results := [.lit (.bool true)], args := [d1, d2, d3] }
  | _ => none }
def graphReachesRow : OpenClaim := { program := "ytpdfcffeinbcaaa", sum := "54310dee088b4192042e946bd435fcb1739b6e5a7bf13556e18ea0385f551dc8", func := "onceweb/onceweblaw15.GraphReaches", spec := "graphReaches", unfollowed := true, recurses := true, apart := false }
def GraphReachesSaid : Prop := graphReachesRow.holds Try.pinned (OpenSpec.ofChange graphReachesSpec)

/-- ITS FALSE NEIGHBOUR: 'it returns false'. Refute it at one input. -/
def graphReachesWrong : ChangeSpec := { name := "graphReaches", fn := fun _ => fun
  | [d1, d2, d3] => { results := [.lit (.bool false)], args := [d1, d2, d3] }
  | _ => none }
def GraphReachesWrongFalsely : Prop := graphReachesRow.holds Try.pinned (OpenSpec.ofChange graphReachesWrong)

/-- 'onceweblaw15.GraphOrders': WHATEVER THE INPUT: true; the input reads as it did. -/
def graphOrdersSpec : ChangeSpec := { name := "graphOrders", fn := fun _ => fun
  | [d] => { results := [.lit (.bool true)], args := [d] }
  | _ => none }
def graphOrdersRow : OpenClaim := { program := "ytpdfcffeinbcaaa", sum := "54310dee088b4192042e946bd435fcb1739b6e5a7bf13556e18ea0385f551dc8", func := "onceweb/onceweblaw15.GraphOrders", spec := "graphOrders", unfollowed := true, recurses := true, apart := false }
def GraphOrdersSaid : Prop := graphOrdersRow.holds Try.pinned (OpenSpec.ofChange graphOrdersSpec)

/-- ITS FALSE NEIGHBOUR: 'it returns false'. Refute it at one input. -/
def graphOrdersWrong : ChangeSpec := { name := "graphOrders", fn := fun _ => fun
  | [d] => { results := [.lit (.bool false)], args := [d] }
  | _ => none }
def GraphOrdersWrongFalsely : Prop := graphOrdersRow.holds Try.pinned (OpenSpec.ofChange graphOrdersWrong)

/-- 'onceweblaw15.GraphLongs': WHATEVER THE INPUT: true; the input reads as it did. -/
def graphLongsSpec : ChangeSpec := { name := "graphLongs", fn := fun _ => fun
  | [d1, d2] => { results := [.lit (.bool true)], args := [d1, d2] }
  | _ => none }
def graphLongsRow : OpenClaim := { program := "ytpdfcffeinbcaaa", sum := "54310dee088b4192042e946bd435fcb1739b6e5a7bf13556e18ea0385f551dc8", func := "onceweb/onceweblaw15.GraphLongs", spec := "graphLongs", unfollowed := true, recurses := true, apart := false }
def GraphLongsSaid : Prop := graphLongsRow.holds Try.pinned (OpenSpec.ofChange graphLongsSpec)

/-- ITS FALSE NEIGHBOUR: 'it returns false'. Refute it at one input. -/
def graphLongsWrong : ChangeSpec := { name := "graphLongs", fn := fun _ => fun
  | [d1, d2] => { results := [.lit (.bool false)], args := [d1, d2] }
  | _ => none }
def GraphLongsWrongFalsely : Prop := graphLongsRow.holds Try.pinned (OpenSpec.ofChange graphLongsWrong)

/-- 'onceweblaw15.GraphLeans': WHATEVER THE INPUT: true; the input reads as it did. -/
def graphLeansSpec : ChangeSpec := { name := "graphLeans", fn := fun _ => fun
  | [d1, d2] => { results := [.lit (.bool true)], args := [d1, d2] }
  | _ => none }
def graphLeansRow : OpenClaim := { program := "ytpdfcffeinbcaaa", sum := "54310dee088b4192042e946bd435fcb1739b6e5a7bf13556e18ea0385f551dc8", func := "onceweb/onceweblaw15.GraphLeans", spec := "graphLeans", unfollowed := true, recurses := true, apart := false }
def GraphLeansSaid : Prop := graphLeansRow.holds Try.pinned (OpenSpec.ofChange graphLeansSpec)

/-- ITS FALSE NEIGHBOUR: 'it returns false'. Refute it at one input. -/
def graphLeansWrong : ChangeSpec := { name := "graphLeans", fn := fun _ => fun
  | [d1, d2] => { results := [.lit (.bool false)], args := [d1, d2] }
  | _ => none }
def GraphLeansWrongFalsely : Prop := graphLeansRow.holds Try.pinned (OpenSpec.ofChange graphLeansWrong)

/-- 'onceweblaw15.GraphRounds': WHATEVER THE INPUT: true; the input reads as it did. -/
def graphRoundsSpec : ChangeSpec := { name := "graphRounds", fn := fun _ => fun
  | [d1, d2] => { results := [.lit (.bool true)], args := [d1, d2] }
  | _ => none }
def graphRoundsRow : OpenClaim := { program := "ytpdfcffeinbcaaa", sum := "54310dee088b4192042e946bd435fcb1739b6e5a7bf13556e18ea0385f551dc8", func := "onceweb/onceweblaw15.GraphRounds", spec := "graphRounds", unfollowed := true, recurses := true, apart := false }
def GraphRoundsSaid : Prop := graphRoundsRow.holds Try.pinned (OpenSpec.ofChange graphRoundsSpec)

/-- ITS FALSE NEIGHBOUR: 'it returns false'. Refute it at one input. -/
def graphRoundsWrong : ChangeSpec := { name := "graphRounds", fn := fun _ => fun
  | [d1, d2] => { results := [.lit (.bool false)], args := [d1, d2] }
  | _ => none }
def GraphRoundsWrongFalsely : Prop := graphRoundsRow.holds Try.pinned (OpenSpec.ofChange graphRoundsWrong)

/-- 'onceweblaw15.GraphKahn': WHATEVER THE INPUT: true; the input reads as it did. -/
def graphKahnSpec : ChangeSpec := { name := "graphKahn", fn := fun _ => fun
  | [d] => { results := [.lit (.bool true)], args := [d] }
  | _ => none }
def graphKahnRow : OpenClaim := { program := "ytpdfcffeinbcaaa", sum := "54310dee088b4192042e946bd435fcb1739b6e5a7bf13556e18ea0385f551dc8", func := "onceweb/onceweblaw15.GraphKahn", spec := "graphKahn", unfollowed := true, recurses := true, apart := false }
def GraphKahnSaid : Prop := graphKahnRow.holds Try.pinned (OpenSpec.ofChange graphKahnSpec)

/-- ITS FALSE NEIGHBOUR: 'it returns false'. Refute it at one input. -/
def graphKahnWrong : ChangeSpec := { name := "graphKahn", fn := fun _ => fun
  | [d] => { results := [.lit (.bool false)], args := [d] }
  | _ => none }
def GraphKahnWrongFalsely : Prop := graphKahnRow.holds Try.pinned (OpenSpec.ofChange graphKahnWrong)

/-- 'onceweblaw15.GraphTarjan': WHATEVER THE INPUT: true; the input reads as it did. -/
def graphTarjanSpec : ChangeSpec := { name := "graphTarjan", fn := fun _ => fun
  | [d] => { results := [.lit (.bool true)], args := [d] }
  | _ => none }
def graphTarjanRow : OpenClaim := { program := "ytpdfcffeinbcaaa", sum := "54310dee088b4192042e946bd435fcb1739b6e5a7bf13556e18ea0385f551dc8", func := "onceweb/onceweblaw15.GraphTarjan", spec := "graphTarjan", unfollowed := true, recurses := true, apart := false }
def GraphTarjanSaid : Prop := graphTarjanRow.holds Try.pinned (OpenSpec.ofChange graphTarjanSpec)

/-- ITS FALSE NEIGHBOUR: 'it returns false'. Refute it at one input. -/
def graphTarjanWrong : ChangeSpec := { name := "graphTarjan", fn := fun _ => fun
  | [d] => { results := [.lit (.bool false)], args := [d] }
  | _ => none }
def GraphTarjanWrongFalsely : Prop := graphTarjanRow.holds Try.pinned (OpenSpec.ofChange graphTarjanWrong)

/-- 'onceweblaw15.GraphThins': WHATEVER THE INPUT: true; the input reads as it did. -/
def graphThinsSpec : ChangeSpec := { name := "graphThins", fn := fun _ => fun
  | [d1, d2, d3] => { results := [.lit (.bool true)], args := [d1, d2, d3] }
  | _ => none }
def graphThinsRow : OpenClaim := { program := "ytpdfcffeinbcaaa", sum := "54310dee088b4192042e946bd435fcb1739b6e5a7bf13556e18ea0385f551dc8", func := "onceweb/onceweblaw15.GraphThins", spec := "graphThins", unfollowed := true, recurses := true, apart := false }
def GraphThinsSaid : Prop := graphThinsRow.holds Try.pinned (OpenSpec.ofChange graphThinsSpec)

/-- ITS FALSE NEIGHBOUR: 'it returns false'. Refute it at one input. -/
def graphThinsWrong : ChangeSpec := { name := "graphThins", fn := fun _ => fun
  | [d1, d2, d3] => { results := [.lit (.bool false)], args := [d1, d2, d3] }
  | _ => none }
def GraphThinsWrongFalsely : Prop := graphThinsRow.holds Try.pinned (OpenSpec.ofChange graphThinsWrong)

/-- 'onceweblaw15.GraphGates': WHATEVER THE INPUT: true; the input reads as it did. -/
def graphGatesSpec : ChangeSpec := { name := "graphGates", fn := fun _ => fun
  | [d1, d2] => { results := [.lit (.bool true)], args := [d1, d2] }
  | _ => none }
def graphGatesRow : OpenClaim := { program := "ytpdfcffeinbcaaa", sum := "54310dee088b4192042e946bd435fcb1739b6e5a7bf13556e18ea0385f551dc8", func := "onceweb/onceweblaw15.GraphGates", spec := "graphGates", unfollowed := true, recurses := true, apart := false }
def GraphGatesSaid : Prop := graphGatesRow.holds Try.pinned (OpenSpec.ofChange graphGatesSpec)

/-- ITS FALSE NEIGHBOUR: 'it returns false'. Refute it at one input. -/
def graphGatesWrong : ChangeSpec := { name := "graphGates", fn := fun _ => fun
  | [d1, d2] => { results := [.lit (.bool false)], args := [d1, d2] }
  | _ => none }
def GraphGatesWrongFalsely : Prop := graphGatesRow.holds Try.pinned (OpenSpec.ofChange graphGatesWrong)

/- THE SECOND FORM. 'bulk': how many values and letters a reading holds, each counted each time it is reached (what is shared counts as often as it is met; a slice's spare places count too). A statement '..UptoSaid' is the law's where the arguments, and the package variables that the reading takes, are together of bulk at most 1048576: NARROWER than '..Said'. Prove '..Said' where nothing that the law and all that it calls make is longer than what came in: it says more and counts as full. Else prove '..UptoSaid'. A law counts once. -/
mutual
def uptoBulk {H : Type} : DataW H → Nat
  | .lit (.string bytes) => bytes.length + 1
  | .lit _ => 1
  | .nil => 1
  | .ptr d => uptoBulk d + 1
  | .slice elems spare => uptoBulkAll elems + uptoBulkAll spare + 1
  | .agg parts => uptoBulkAll parts + 1
  | .iface _ d => uptoBulk d + 1
  | .map entries => uptoBulkEntries entries + 1
  | .held _ => 1
def uptoBulkAll {H : Type} : List (DataW H) → Nat
  | [] => 0
  | d :: r => uptoBulk d + uptoBulkAll r
def uptoBulkEntries {H : Type} : List (Lit × DataW H) → Nat
  | [] => 0
  | x :: r => uptoBulkEntry x + uptoBulkEntries r
def uptoBulkEntry {H : Type} : Lit × DataW H → Nat
  | (.string bytes, d) => bytes.length + uptoBulk d + 1
  | (_, d) => uptoBulk d + 1
 end
def uptoSmall : (H : Type) → List (DataW H) → Bool := fun _ ds => decide (uptoBulkAll ds ≤ 1048576)
def OpenSpec.upto (s : _root_.Go.ChangeSpec) : _root_.Go.OpenSpec := { _root_.Go.OpenSpec.ofChange s with cond := some uptoSmall }

/-- 'onceweblaw15.GraphReaches', WHERE WHAT IT READS IS OF BULK AT MOST 1048576: true; the input reads as it did. -/
def graphReachesUptoRow : OpenClaim := { program := "ytpdfcffeinbcaaa", sum := "54310dee088b4192042e946bd435fcb1739b6e5a7bf13556e18ea0385f551dc8", func := "onceweb/onceweblaw15.GraphReaches", spec := "graphReaches", unfollowed := true, recurses := true, apart := false, narrowed := true }
def GraphReachesUptoSaid : Prop := graphReachesUptoRow.holds Try.pinned (OpenSpec.upto graphReachesSpec)

/-- 'onceweblaw15.GraphOrders', WHERE WHAT IT READS IS OF BULK AT MOST 1048576: true; the input reads as it did. -/
def graphOrdersUptoRow : OpenClaim := { program := "ytpdfcffeinbcaaa", sum := "54310dee088b4192042e946bd435fcb1739b6e5a7bf13556e18ea0385f551dc8", func := "onceweb/onceweblaw15.GraphOrders", spec := "graphOrders", unfollowed := true, recurses := true, apart := false, narrowed := true }
def GraphOrdersUptoSaid : Prop := graphOrdersUptoRow.holds Try.pinned (OpenSpec.upto graphOrdersSpec)

/-- 'onceweblaw15.GraphLongs', WHERE WHAT IT READS IS OF BULK AT MOST 1048576: true; the input reads as it did. -/
def graphLongsUptoRow : OpenClaim := { program := "ytpdfcffeinbcaaa", sum := "54310dee088b4192042e946bd435fcb1739b6e5a7bf13556e18ea0385f551dc8", func := "onceweb/onceweblaw15.GraphLongs", spec := "graphLongs", unfollowed := true, recurses := true, apart := false, narrowed := true }
def GraphLongsUptoSaid : Prop := graphLongsUptoRow.holds Try.pinned (OpenSpec.upto graphLongsSpec)

/-- 'onceweblaw15.GraphLeans', WHERE WHAT IT READS IS OF BULK AT MOST 1048576: true; the input reads as it did. -/
def graphLeansUptoRow : OpenClaim := { program := "ytpdfcffeinbcaaa", sum := "54310dee088b4192042e946bd435fcb1739b6e5a7bf13556e18ea0385f551dc8", func := "onceweb/onceweblaw15.GraphLeans", spec := "graphLeans", unfollowed := true, recurses := true, apart := false, narrowed := true }
def GraphLeansUptoSaid : Prop := graphLeansUptoRow.holds Try.pinned (OpenSpec.upto graphLeansSpec)

/-- 'onceweblaw15.GraphRounds', WHERE WHAT IT READS IS OF BULK AT MOST 1048576: true; the input reads as it did. -/
def graphRoundsUptoRow : OpenClaim := { program := "ytpdfcffeinbcaaa", sum := "54310dee088b4192042e946bd435fcb1739b6e5a7bf13556e18ea0385f551dc8", func := "onceweb/onceweblaw15.GraphRounds", spec := "graphRounds", unfollowed := true, recurses := true, apart := false, narrowed := true }
def GraphRoundsUptoSaid : Prop := graphRoundsUptoRow.holds Try.pinned (OpenSpec.upto graphRoundsSpec)

/-- 'onceweblaw15.GraphKahn', WHERE WHAT IT READS IS OF BULK AT MOST 1048576: true; the input reads as it did. -/
def graphKahnUptoRow : OpenClaim := { program := "ytpdfcffeinbcaaa", sum := "54310dee088b4192042e946bd435fcb1739b6e5a7bf13556e18ea0385f551dc8", func := "onceweb/onceweblaw15.GraphKahn", spec := "graphKahn", unfollowed := true, recurses := true, apart := false, narrowed := true }
def GraphKahnUptoSaid : Prop := graphKahnUptoRow.holds Try.pinned (OpenSpec.upto graphKahnSpec)

/-- 'onceweblaw15.GraphTarjan', WHERE WHAT IT READS IS OF BULK AT MOST 1048576: true; the input reads as it did. -/
def graphTarjanUptoRow : OpenClaim := { program := "ytpdfcffeinbcaaa", sum := "54310dee088b4192042e946bd435fcb1739b6e5a7bf13556e18ea0385f551dc8", func := "onceweb/onceweblaw15.GraphTarjan", spec := "graphTarjan", unfollowed := true, recurses := true, apart := false, narrowed := true }
def GraphTarjanUptoSaid : Prop := graphTarjanUptoRow.holds Try.pinned (OpenSpec.upto graphTarjanSpec)

/-- 'onceweblaw15.GraphThins', WHERE WHAT IT READS IS OF BULK AT MOST 1048576: true; the input reads as it did. -/
def graphThinsUptoRow : OpenClaim := { program := "ytpdfcffeinbcaaa", sum := "54310dee088b4192042e946bd435fcb1739b6e5a7bf13556e18ea0385f551dc8", func := "onceweb/onceweblaw15.GraphThins", spec := "graphThins", unfollowed := true, recurses := true, apart := false, narrowed := true }
def GraphThinsUptoSaid : Prop := graphThinsUptoRow.holds Try.pinned (OpenSpec.upto graphThinsSpec)

/-- 'onceweblaw15.GraphGates', WHERE WHAT IT READS IS OF BULK AT MOST 1048576: true; the input reads as it did. -/
def graphGatesUptoRow : OpenClaim := { program := "ytpdfcffeinbcaaa", sum := "54310dee088b4192042e946bd435fcb1739b6e5a7bf13556e18ea0385f551dc8", func := "onceweb/onceweblaw15.GraphGates", spec := "graphGates", unfollowed := true, recurses := true, apart := false, narrowed := true }
def GraphGatesUptoSaid : Prop := graphGatesUptoRow.holds Try.pinned (OpenSpec.upto graphGatesSpec)

end Rows
end Go.Proofs.Ytpdfcffeinbcaaa
