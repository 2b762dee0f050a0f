/-
  NARROWER THAN 'FOR EVERY INPUT', by the rows' own cells (each row's printed sentence says how): CallsTargets: loops, laid · CallsGraph: loops, laid · CallsNames: loops, laid · CallsReach: loops, laid · CallsEdges: loops, laid · CallsClasses: loops, laid.
  DERIVED. THE GIVEN ROWS OF THIS SEAT. 6 by the template 'for every input the law returns true; each argument reads behind the call as it read before'; 0 by the template 'total and deterministic' (their statements: YtighfcpaplmaiaaGreatDoorTotals.lean).
  GIVEN WITH THE SEED: the statements are not yours to turn. If you find one false, say at which input.
  Laid BY PROGRAM, IN A SANDBOX (cutbox-rows.mjs): the forced cells as the released guide's own fill.sh prints them over the translation be4497f9a1916493… (all of the seat's roots in one cut). By AI agents, Wed Nov 11 2026. No macro, syntax, notation, axiom, sorry.
-/
import Derived.Test.YtighfcpaplmaiaaGreatDoorChecked
import GoSem.Claim
import GoSem.ClaimJoined
import GoSem.ClaimMapViews
import Derived.JoinedTies
import Derived.KernelRfl
namespace Go.Proofs.YtighfcpaplmaiaaGreatDoor
/- THE CELL 'sum', in the pinned program and in every row, IS THE sha256 OF THE DUMP (.gsa) THAT YtighfcpaplmaiaaGreatDoorProg.lean LOADS. Nothing in Lean hashes anything: it is a label: what it is worth is what the hold of that sum in a sandbox is worth. -/
noncomputable def Tryz.pinned : Pinned := { name := "ytighfcpaplmaiaagreatdoor", sum := "be4497f9a1916493ac14bcd709ab82e2515c402a2018702c3109f61287e81f9b", checked := Tryz.checked }
namespace Rows
def none {H : Type} : Left H := { results := [], args := [] }

/- WHAT THE LISTED PACKAGE-LEVEL VARIABLES READ AS WHEN THE CALL BEGINS. Each datum BY PROGRAM (the guide's laid-datum.mjs) off the statement by which the dump's own 'gosem.cut.vars' lays the variable. In a bare row this is a premise. The card (YtighfcpaplmaiaaGreatDoorCards.lean) ties it to the program's text. -/
def laid_treemerge_grammar_shapes {H : Type} : DataW H := .agg [.agg [.nil, .agg [.lit (.int .i64 0), .lit (.int .i64 0)], .lit (.int .i64 0), .nil, .lit (.int .i64 0)], .agg [.nil, .agg [.lit (.int .i64 0), .lit (.int .i64 1)], .lit (.int .i64 0), .nil, .lit (.int .i64 1)], .agg [.slice [.agg [.lit (.int .i64 3), .lit (.int .i64 0)], .agg [.lit (.int .i64 5), .lit (.int .i64 0)], .agg [.lit (.int .i64 6), .lit (.int .i64 0)]] [], .agg [.lit (.int .i64 0), .lit (.int .i64 0)], .lit (.int .i64 1), .nil, .lit (.int .i64 2)], .agg [.nil, .agg [.lit (.int .i64 4), .lit (.int .i64 0)], .lit (.int .i64 0), .nil, .lit (.int .i64 2)], .agg [.slice [.agg [.lit (.int .i64 5), .lit (.int .i64 0)]] [], .agg [.lit (.int .i64 0), .lit (.int .i64 0)], .lit (.int .i64 1), .nil, .lit (.int .i64 1)], .agg [.nil, .agg [.lit (.int .i64 0), .lit (.int .i64 0)], .lit (.int .i64 1), .nil, .lit (.int .i64 1)], .agg [.nil, .agg [.lit (.int .i64 0), .lit (.int .i64 2)], .lit (.int .i64 0), .nil, .lit (.int .i64 2)], .agg [.slice [.agg [.lit (.int .i64 8), .lit (.int .i64 0)]] [], .agg [.lit (.int .i64 2), .lit (.int .i64 0)], .lit (.int .i64 1), .nil, .lit (.int .i64 4)], .agg [.nil, .agg [.lit (.int .i64 0), .lit (.int .i64 0)], .lit (.int .i64 2), .nil, .lit (.int .i64 2)], .agg [.slice [.agg [.lit (.int .i64 0), .lit (.int .i64 3)]] [], .agg [.lit (.int .i64 0), .lit (.int .i64 0)], .lit (.int .i64 1), .nil, .lit (.int .i64 4)], .agg [.slice [.agg [.lit (.int .i64 0), .lit (.int .i64 3)]] [], .agg [.lit (.int .i64 0), .lit (.int .i64 0)], .lit (.int .i64 1), .nil, .lit (.int .i64 4)], .agg [.slice [.agg [.lit (.int .i64 0), .lit (.int .i64 3)]] [], .agg [.lit (.int .i64 0), .lit (.int .i64 0)], .lit (.int .i64 1), .nil, .lit (.int .i64 3)], .agg [.slice [.agg [.lit (.int .i64 0), .lit (.int .i64 3)]] [], .agg [.lit (.int .i64 0), .lit (.int .i64 0)], .lit (.int .i64 0), .nil, .lit (.int .i64 2)], .agg [.slice [.agg [.lit (.int .i64 0), .lit (.int .i64 3)], .agg [.lit (.int .i64 6), .lit (.int .i64 0)], .agg [.lit (.int .i64 14), .lit (.int .i64 0)]] [], .agg [.lit (.int .i64 0), .lit (.int .i64 0)], .lit (.int .i64 0), .nil, .lit (.int .i64 1)], .agg [.slice [.agg [.lit (.int .i64 6), .lit (.int .i64 0)]] [], .agg [.lit (.int .i64 0), .lit (.int .i64 0)], .lit (.int .i64 0), .nil, .lit (.int .i64 1)], .agg [.slice [.agg [.lit (.int .i64 0), .lit (.int .i64 3)], .agg [.lit (.int .i64 6), .lit (.int .i64 0)]] [], .agg [.lit (.int .i64 0), .lit (.int .i64 0)], .lit (.int .i64 0), .nil, .lit (.int .i64 1)], .agg [.slice [.agg [.lit (.int .i64 0), .lit (.int .i64 3)]] [], .agg [.lit (.int .i64 0), .lit (.int .i64 0)], .lit (.int .i64 0), .nil, .lit (.int .i64 1)], .agg [.nil, .agg [.lit (.int .i64 0), .lit (.int .i64 0)], .lit (.int .i64 3), .nil, .lit (.int .i64 1)], .agg [.nil, .agg [.lit (.int .i64 0), .lit (.int .i64 0)], .lit (.int .i64 4), .slice [.lit (.string [116, 114, 117, 101]), .lit (.string [102, 97, 108, 115, 101])] [], .lit (.int .i64 1)], .agg [.nil, .agg [.lit (.int .i64 0), .lit (.int .i64 0)], .lit (.int .i64 1), .nil, .lit (.int .i64 1)], .agg [.nil, .agg [.lit (.int .i64 0), .lit (.int .i64 3)], .lit (.int .i64 1), .nil, .lit (.int .i64 3)], .agg [.slice [.agg [.lit (.int .i64 0), .lit (.int .i64 3)]] [], .agg [.lit (.int .i64 0), .lit (.int .i64 3)], .lit (.int .i64 1), .nil, .lit (.int .i64 4)], .agg [.nil, .agg [.lit (.int .i64 0), .lit (.int .i64 0)], .lit (.int .i64 1), .nil, .lit (.int .i64 4)], .agg [.nil, .agg [.lit (.int .i64 0), .lit (.int .i64 0)], .lit (.int .i64 4), .slice [.lit (.string [115, 101, 108, 102])] [], .lit (.int .i64 1)], .agg [.slice [.agg [.lit (.int .i64 0), .lit (.int .i64 3)], .agg [.lit (.int .i64 0), .lit (.int .i64 3)]] [], .agg [.lit (.int .i64 0), .lit (.int .i64 0)], .lit (.int .i64 4), .slice [.lit (.string [124]), .lit (.string [38]), .lit (.string [61, 61]), .lit (.string [60]), .lit (.string [43]), .lit (.string [45]), .lit (.string [42]), .lit (.string [47])] [], .lit (.int .i64 1)], .agg [.slice [.agg [.lit (.int .i64 0), .lit (.int .i64 3)]] [], .agg [.lit (.int .i64 0), .lit (.int .i64 0)], .lit (.int .i64 4), .slice [.lit (.string [45]), .lit (.string [33])] [], .lit (.int .i64 1)], .agg [.slice [.agg [.lit (.int .i64 0), .lit (.int .i64 3)]] [], .agg [.lit (.int .i64 0), .lit (.int .i64 0)], .lit (.int .i64 0), .nil, .lit (.int .i64 2)]]

/-- 'treemergelaw15.CallsTargets': WHATEVER THE INPUT: true; the input reads as it did. -/
def callsTargetsSpec : ChangeSpec := { name := "callsTargets", fn := fun _ => fun
  | [d1, d2] => { results := [.lit (.bool true)], args := [d1, d2] }
  | _ => none }
def callsTargetsRow : OpenClaim := { program := "ytighfcpaplmaiaagreatdoor", sum := "be4497f9a1916493ac14bcd709ab82e2515c402a2018702c3109f61287e81f9b", func := "treemerge/treemergelaw15.CallsTargets", spec := "callsTargets", inPlace := ["internal/bytealg.IndexByteString", "internal/reflectlite.ValueOf", "internal/reflectlite.Swapper", "(internal/reflectlite.Value).Len"], unfollowed := true, recurses := true, named := ["treemerge/grammar.shapes"], loops := true, plainKeys := false, apart := false, laid := [("treemerge/grammar.shapes", laid_treemerge_grammar_shapes)] }
def CallsTargetsSaid : Prop := callsTargetsRow.holds Tryz.pinned (OpenSpec.ofChange callsTargetsSpec)

/-- ITS FALSE NEIGHBOUR: 'it returns false'. Refute it at one input. -/
def callsTargetsWrong : ChangeSpec := { name := "callsTargets", fn := fun _ => fun
  | [d1, d2] => { results := [.lit (.bool false)], args := [d1, d2] }
  | _ => none }
def CallsTargetsWrongFalsely : Prop := callsTargetsRow.holds Tryz.pinned (OpenSpec.ofChange callsTargetsWrong)

/-- 'treemergelaw15.CallsGraph': WHATEVER THE INPUT: true; the input reads as it did. -/
def callsGraphSpec : ChangeSpec := { name := "callsGraph", fn := fun _ => fun
  | [d] => { results := [.lit (.bool true)], args := [d] }
  | _ => none }
def callsGraphRow : OpenClaim := { program := "ytighfcpaplmaiaagreatdoor", sum := "be4497f9a1916493ac14bcd709ab82e2515c402a2018702c3109f61287e81f9b", func := "treemerge/treemergelaw15.CallsGraph", spec := "callsGraph", inPlace := ["internal/bytealg.IndexByteString", "internal/reflectlite.ValueOf", "internal/reflectlite.Swapper", "(internal/reflectlite.Value).Len"], unfollowed := true, recurses := true, named := ["treemerge/grammar.shapes"], loops := true, plainKeys := false, apart := false, laid := [("treemerge/grammar.shapes", laid_treemerge_grammar_shapes)] }
def CallsGraphSaid : Prop := callsGraphRow.holds Tryz.pinned (OpenSpec.ofChange callsGraphSpec)

/-- ITS FALSE NEIGHBOUR: 'it returns false'. Refute it at one input. -/
def callsGraphWrong : ChangeSpec := { name := "callsGraph", fn := fun _ => fun
  | [d] => { results := [.lit (.bool false)], args := [d] }
  | _ => none }
def CallsGraphWrongFalsely : Prop := callsGraphRow.holds Tryz.pinned (OpenSpec.ofChange callsGraphWrong)

/-- 'treemergelaw15.CallsNames': WHATEVER THE INPUT: true; the input reads as it did. -/
def callsNamesSpec : ChangeSpec := { name := "callsNames", fn := fun _ => fun
  | [d1, d2] => { results := [.lit (.bool true)], args := [d1, d2] }
  | _ => none }
def callsNamesRow : OpenClaim := { program := "ytighfcpaplmaiaagreatdoor", sum := "be4497f9a1916493ac14bcd709ab82e2515c402a2018702c3109f61287e81f9b", func := "treemerge/treemergelaw15.CallsNames", spec := "callsNames", inPlace := ["internal/bytealg.IndexByteString", "internal/reflectlite.ValueOf", "internal/reflectlite.Swapper", "(internal/reflectlite.Value).Len"], unfollowed := true, recurses := true, named := ["treemerge/grammar.shapes"], loops := true, plainKeys := false, apart := false, laid := [("treemerge/grammar.shapes", laid_treemerge_grammar_shapes)] }
def CallsNamesSaid : Prop := callsNamesRow.holds Tryz.pinned (OpenSpec.ofChange callsNamesSpec)

/-- ITS FALSE NEIGHBOUR: 'it returns false'. Refute it at one input. -/
def callsNamesWrong : ChangeSpec := { name := "callsNames", fn := fun _ => fun
  | [d1, d2] => { results := [.lit (.bool false)], args := [d1, d2] }
  | _ => none }
def CallsNamesWrongFalsely : Prop := callsNamesRow.holds Tryz.pinned (OpenSpec.ofChange callsNamesWrong)

/-- 'treemergelaw15.CallsReach': WHATEVER THE INPUT: true; the input reads as it did. -/
def callsReachSpec : ChangeSpec := { name := "callsReach", fn := fun _ => fun
  | [d1, d2] => { results := [.lit (.bool true)], args := [d1, d2] }
  | _ => none }
def callsReachRow : OpenClaim := { program := "ytighfcpaplmaiaagreatdoor", sum := "be4497f9a1916493ac14bcd709ab82e2515c402a2018702c3109f61287e81f9b", func := "treemerge/treemergelaw15.CallsReach", spec := "callsReach", inPlace := ["internal/bytealg.IndexByteString", "internal/reflectlite.ValueOf", "internal/reflectlite.Swapper", "(internal/reflectlite.Value).Len"], unfollowed := true, recurses := true, named := ["treemerge/grammar.shapes"], loops := true, plainKeys := false, apart := false, laid := [("treemerge/grammar.shapes", laid_treemerge_grammar_shapes)] }
def CallsReachSaid : Prop := callsReachRow.holds Tryz.pinned (OpenSpec.ofChange callsReachSpec)

/-- ITS FALSE NEIGHBOUR: 'it returns false'. Refute it at one input. -/
def callsReachWrong : ChangeSpec := { name := "callsReach", fn := fun _ => fun
  | [d1, d2] => { results := [.lit (.bool false)], args := [d1, d2] }
  | _ => none }
def CallsReachWrongFalsely : Prop := callsReachRow.holds Tryz.pinned (OpenSpec.ofChange callsReachWrong)

/-- 'treemergelaw15.CallsEdges': WHATEVER THE INPUT: true; the input reads as it did. -/
def callsEdgesSpec : ChangeSpec := { name := "callsEdges", fn := fun _ => fun
  | [d] => { results := [.lit (.bool true)], args := [d] }
  | _ => none }
def callsEdgesRow : OpenClaim := { program := "ytighfcpaplmaiaagreatdoor", sum := "be4497f9a1916493ac14bcd709ab82e2515c402a2018702c3109f61287e81f9b", func := "treemerge/treemergelaw15.CallsEdges", spec := "callsEdges", inPlace := ["internal/bytealg.IndexByteString", "internal/reflectlite.ValueOf", "internal/reflectlite.Swapper", "(internal/reflectlite.Value).Len"], unfollowed := true, recurses := true, named := ["treemerge/grammar.shapes"], loops := true, plainKeys := false, apart := false, laid := [("treemerge/grammar.shapes", laid_treemerge_grammar_shapes)] }
def CallsEdgesSaid : Prop := callsEdgesRow.holds Tryz.pinned (OpenSpec.ofChange callsEdgesSpec)

/-- ITS FALSE NEIGHBOUR: 'it returns false'. Refute it at one input. -/
def callsEdgesWrong : ChangeSpec := { name := "callsEdges", fn := fun _ => fun
  | [d] => { results := [.lit (.bool false)], args := [d] }
  | _ => none }
def CallsEdgesWrongFalsely : Prop := callsEdgesRow.holds Tryz.pinned (OpenSpec.ofChange callsEdgesWrong)

/-- 'treemergelaw15.CallsClasses': WHATEVER THE INPUT: true; the input reads as it did. -/
def callsClassesSpec : ChangeSpec := { name := "callsClasses", fn := fun _ => fun
  | [d1, d2] => { results := [.lit (.bool true)], args := [d1, d2] }
  | _ => none }
def callsClassesRow : OpenClaim := { program := "ytighfcpaplmaiaagreatdoor", sum := "be4497f9a1916493ac14bcd709ab82e2515c402a2018702c3109f61287e81f9b", func := "treemerge/treemergelaw15.CallsClasses", spec := "callsClasses", inPlace := ["internal/bytealg.IndexByteString", "internal/reflectlite.ValueOf", "internal/reflectlite.Swapper", "(internal/reflectlite.Value).Len"], unfollowed := true, recurses := true, named := ["treemerge/grammar.shapes"], loops := true, plainKeys := false, apart := false, laid := [("treemerge/grammar.shapes", laid_treemerge_grammar_shapes)] }
def CallsClassesSaid : Prop := callsClassesRow.holds Tryz.pinned (OpenSpec.ofChange callsClassesSpec)

/-- ITS FALSE NEIGHBOUR: 'it returns false'. Refute it at one input. -/
def callsClassesWrong : ChangeSpec := { name := "callsClasses", fn := fun _ => fun
  | [d1, d2] => { results := [.lit (.bool false)], args := [d1, d2] }
  | _ => none }
def CallsClassesWrongFalsely : Prop := callsClassesRow.holds Tryz.pinned (OpenSpec.ofChange callsClassesWrong)

/- THE SECOND FORM. 'bulk': how many values and letters a reading holds, each counted each time it is reached (what is shared counts as often as it is met; a slice's spare places count too). A statement '..UptoSaid' is the law's where the arguments, and the package variables that the reading takes, are together of bulk at most 1048576: NARROWER than '..Said'. Prove '..Said' where nothing that the law and all that it calls make is longer than what came in: it says more and counts as full. Else prove '..UptoSaid'. A law counts once. -/
mutual
def uptoBulk {H : Type} : DataW H → Nat
  | .lit (.string bytes) => bytes.length + 1
  | .lit _ => 1
  | .nil => 1
  | .ptr d => uptoBulk d + 1
  | .slice elems spare => uptoBulkAll elems + uptoBulkAll spare + 1
  | .agg parts => uptoBulkAll parts + 1
  | .iface _ d => uptoBulk d + 1
  | .map entries => uptoBulkEntries entries + 1
  | .held _ => 1
def uptoBulkAll {H : Type} : List (DataW H) → Nat
  | [] => 0
  | d :: r => uptoBulk d + uptoBulkAll r
def uptoBulkEntries {H : Type} : List (Lit × DataW H) → Nat
  | [] => 0
  | x :: r => uptoBulkEntry x + uptoBulkEntries r
def uptoBulkEntry {H : Type} : Lit × DataW H → Nat
  | (.string bytes, d) => bytes.length + uptoBulk d + 1
  | (_, d) => uptoBulk d + 1
 end
def uptoSmall : (H : Type) → List (DataW H) → Bool := fun _ ds => decide (uptoBulkAll ds ≤ 1048576)
def OpenSpec.upto (s : _root_.Go.ChangeSpec) : _root_.Go.OpenSpec := { _root_.Go.OpenSpec.ofChange s with cond := some uptoSmall }

/-- 'treemergelaw15.CallsTargets', WHERE WHAT IT READS IS OF BULK AT MOST 1048576: true; the input reads as it did. -/
def callsTargetsUptoRow : OpenClaim := { program := "ytighfcpaplmaiaagreatdoor", sum := "be4497f9a1916493ac14bcd709ab82e2515c402a2018702c3109f61287e81f9b", func := "treemerge/treemergelaw15.CallsTargets", spec := "callsTargets", inPlace := ["internal/bytealg.IndexByteString", "internal/reflectlite.ValueOf", "internal/reflectlite.Swapper", "(internal/reflectlite.Value).Len"], unfollowed := true, recurses := true, named := ["treemerge/grammar.shapes"], loops := true, plainKeys := false, apart := false, laid := [("treemerge/grammar.shapes", laid_treemerge_grammar_shapes)], narrowed := true }
def CallsTargetsUptoSaid : Prop := callsTargetsUptoRow.holds Tryz.pinned (OpenSpec.upto callsTargetsSpec)

/-- 'treemergelaw15.CallsGraph', WHERE WHAT IT READS IS OF BULK AT MOST 1048576: true; the input reads as it did. -/
def callsGraphUptoRow : OpenClaim := { program := "ytighfcpaplmaiaagreatdoor", sum := "be4497f9a1916493ac14bcd709ab82e2515c402a2018702c3109f61287e81f9b", func := "treemerge/treemergelaw15.CallsGraph", spec := "callsGraph", inPlace := ["internal/bytealg.IndexByteString", "internal/reflectlite.ValueOf", "internal/reflectlite.Swapper", "(internal/reflectlite.Value).Len"], unfollowed := true, recurses := true, named := ["treemerge/grammar.shapes"], loops := true, plainKeys := false, apart := false, laid := [("treemerge/grammar.shapes", laid_treemerge_grammar_shapes)], narrowed := true }
def CallsGraphUptoSaid : Prop := callsGraphUptoRow.holds Tryz.pinned (OpenSpec.upto callsGraphSpec)

/-- 'treemergelaw15.CallsNames', WHERE WHAT IT READS IS OF BULK AT MOST 1048576: true; the input reads as it did. -/
def callsNamesUptoRow : OpenClaim := { program := "ytighfcpaplmaiaagreatdoor", sum := "be4497f9a1916493ac14bcd709ab82e2515c402a2018702c3109f61287e81f9b", func := "treemerge/treemergelaw15.CallsNames", spec := "callsNames", inPlace := ["internal/bytealg.IndexByteString", "internal/reflectlite.ValueOf", "internal/reflectlite.Swapper", "(internal/reflectlite.Value).Len"], unfollowed := true, recurses := true, named := ["treemerge/grammar.shapes"], loops := true, plainKeys := false, apart := false, laid := [("treemerge/grammar.shapes", laid_treemerge_grammar_shapes)], narrowed := true }
def CallsNamesUptoSaid : Prop := callsNamesUptoRow.holds Tryz.pinned (OpenSpec.upto callsNamesSpec)

/-- 'treemergelaw15.CallsReach', WHERE WHAT IT READS IS OF BULK AT MOST 1048576: true; the input reads as it did. -/
def callsReachUptoRow : OpenClaim := { program := "ytighfcpaplmaiaagreatdoor", sum := "be4497f9a1916493ac14bcd709ab82e2515c402a2018702c3109f61287e81f9b", func := "treemerge/treemergelaw15.CallsReach", spec := "callsReach", inPlace := ["internal/bytealg.IndexByteString", "internal/reflectlite.ValueOf", "internal/reflectlite.Swapper", "(internal/reflectlite.Value).Len"], unfollowed := true, recurses := true, named := ["treemerge/grammar.shapes"], loops := true, plainKeys := false, apart := false, laid := [("treemerge/grammar.shapes", laid_treemerge_grammar_shapes)], narrowed := true }
def CallsReachUptoSaid : Prop := callsReachUptoRow.holds Tryz.pinned (OpenSpec.upto callsReachSpec)

/-- 'treemergelaw15.CallsEdges', WHERE WHAT IT READS IS OF BULK AT MOST 1048576: true; the input reads as it did. -/
def callsEdgesUptoRow : OpenClaim := { program := "ytighfcpaplmaiaagreatdoor", sum := "be4497f9a1916493ac14bcd709ab82e2515c402a2018702c3109f61287e81f9b", func := "treemerge/treemergelaw15.CallsEdges", spec := "callsEdges", inPlace := ["internal/bytealg.IndexByteString", "internal/reflectlite.ValueOf", "internal/reflectlite.Swapper", "(internal/reflectlite.Value).Len"], unfollowed := true, recurses := true, named := ["treemerge/grammar.shapes"], loops := true, plainKeys := false, apart := false, laid := [("treemerge/grammar.shapes", laid_treemerge_grammar_shapes)], narrowed := true }
def CallsEdgesUptoSaid : Prop := callsEdgesUptoRow.holds Tryz.pinned (OpenSpec.upto callsEdgesSpec)

/-- 'treemergelaw15.CallsClasses', WHERE WHAT IT READS IS OF BULK AT MOST 1048576: true; the input reads as it did. -/
def callsClassesUptoRow : OpenClaim := { program := "ytighfcpaplmaiaagreatdoor", sum := "be4497f9a1916493ac14bcd709ab82e2515c402a2018702c3109f61287e81f9b", func := "treemerge/treemergelaw15.CallsClasses", spec := "callsClasses", inPlace := ["internal/bytealg.IndexByteString", "internal/reflectlite.ValueOf", "internal/reflectlite.Swapper", "(internal/reflectlite.Value).Len"], unfollowed := true, recurses := true, named := ["treemerge/grammar.shapes"], loops := true, plainKeys := false, apart := false, laid := [("treemerge/grammar.shapes", laid_treemerge_grammar_shapes)], narrowed := true }
def CallsClassesUptoSaid : Prop := callsClassesUptoRow.holds Tryz.pinned (OpenSpec.upto callsClassesSpec)

end Rows
end Go.Proofs.YtighfcpaplmaiaaGreatDoor
